import Derived.Test.YtilopjlcgmedgaaGreatDoorOd2
import Derived.Carry
namespace Go.Proofs.YtilopjlcgmedgaaGreatDoor
open Go.ChangeShapes Go.WideShapes Go.ChangeAt Go.RowKit Go.ChangeMaps Go.Joins Go.Deep
set_option linter.unusedVariables false
set_option linter.unusedSimpArgs false
set_option maxRecDepth 100000
theorem VAt.low {W : World} {F : Nat → Prop} {t : Tr} {cs : List Value} (h : VAt W F t cs) : VAt W (LowF W) t cs := h.kept (Nat.le_refl _) (fun _ _ _ => rfl) (fun k _ hl => hl)
theorem FAt.low {W : World} {F : Nat → Prop} {t : Tr} {v : Value} (h : FAt W F t v) : FAt W (LowF W) t v := h.kept (Nat.le_refl _) (fun _ _ _ => rfl) (fun k _ hl => hl)
theorem mm1 (p s mo c : Int) (hs : s < mo) (hc : 0 ≤ c) (h : s + min p (mo - s) < mo) : min (s + min p (mo - s) + c) mo = min (s + (p + c)) mo := by
 simp only [Int.min_def] at h ⊢
 split at h <;> split <;> split <;> omega
theorem mm2 (p s mo c : Int) (hs : s < mo) (hc : 0 ≤ c) (h : ¬ s + min p (mo - s) < mo) : s + min p (mo - s) = min (s + (p + c)) mo := by
 simp only [Int.min_def] at h ⊢
 split at h <;> split <;> omega
theorem mm3 (p s mo c : Int) (hs : s < mo) (hs0 : 0 ≤ s) (hp : 0 ≤ p) (hc : 0 ≤ c) (h : max s (min p mo) < mo) : min (max (max s (min p mo)) c) mo = min (max s (max p c)) mo := by
 simp only [Int.min_def, Int.max_def] at h ⊢
 repeat' split at h
 all_goals repeat' split
 all_goals omega
theorem mm4 (p s mo c : Int) (hs : s < mo) (hs0 : 0 ≤ s) (hp : 0 ≤ p) (hc : 0 ≤ c) (h : ¬ max s (min p mo) < mo) : max s (min p mo) = min (max s (max p c)) mo := by
 simp only [Int.min_def, Int.max_def] at h ⊢
 repeat' split at h
 all_goals repeat' split
 all_goals omega
theorem mm5 (a : Nat) (mo : Int) : min (1 + (a : Int)) mo = min (((1 + a : Nat)) : Int) mo := by rw [show (((1 + a : Nat)) : Int) = 1 + (a : Int) by omega]
theorem mm6 (a : Nat) (mo : Int) (h : 1 = mo) : 1 = min (((1 + a : Nat)) : Int) mo := by rw [Int.min_eq_right (by omega)]; exact h
theorem mm7 (a : Nat) (mo : Int) : 1 + min (max 0 (a : Int)) (mo - 1) = min (((1 + a : Nat)) : Int) mo := by
 rw [Int.max_eq_right (by omega)]
 simp only [Int.min_def]
 split <;> split <;> omega
theorem each_nod (mo : Int) : ∀ (l : List Tr) (s : Int), s < mo → eachF (fun s p => s + min (p.nod : Int) (mo - s)) (fun s => decide (s < mo)) s l = min (s + ((l.map Tr.nod).sum : Nat)) mo
 | [], s, h => by show s = _; simp only [List.map_nil, List.sum_nil]; omega
 | p :: r, s, h => by
  show (if _ then _ else _) = _
  simp only [List.map_cons, List.sum_cons, decide_eq_true_eq]
  rw [show (((p.nod + (r.map Tr.nod).sum : Nat)) : Int) = (p.nod : Int) + ((r.map Tr.nod).sum : Nat) by omega]
  split
  ·rename_i h1
   rw [each_nod mo r _ h1]
   exact mm1 _ _ _ _ h (by omega) h1
  ·rename_i h1
   exact mm2 _ _ _ _ h (by omega) h1
theorem each_dep (mo : Int) : ∀ (l : List Tr) (s : Int), s < mo → 0 ≤ s → eachF (fun s p => max s (min (p.dep : Int) mo)) (fun s => decide (s < mo)) s l = min (max s ((l.map Tr.dep).foldr max 0 : Nat)) mo
 | [], s, h, h0 => by show s = _; simp only [List.map_nil, List.foldr_nil]; omega
 | p :: r, s, h, h0 => by
  show (if _ then _ else _) = _
  simp only [List.map_cons, List.foldr_cons, decide_eq_true_eq]
  rw [show (((max p.dep ((r.map Tr.dep).foldr max 0) : Nat)) : Int) = max (p.dep : Int) ((r.map Tr.dep).foldr max 0 : Nat) by omega]
  split
  ·rename_i h1
   rw [each_dep mo r _ h1 (by omega)]
   exact mm3 _ _ _ _ h h0 (by omega) (by omega) h1
  ·rename_i h1
   exact mm4 _ _ _ _ h h0 (by omega) (by omega) h1
theorem nod_parts {k n : Int} {s : ByteArray} {l d : Tr} (hl : l.isL = true) (hd : d.isF = true) : (Tr.mk k n s l d).nod = 1 + ((Tr.mk k n s l d).parts.map Tr.nod).sum := by
 simp only [Tr.nod, Tr.parts]
 split
 ·rw [Tr.nod_lst l (.inl hl)]
 ·split
  ·rw [Tr.nod_lst d (.inr hd)]
  ·rfl
theorem dep_parts {k n : Int} {s : ByteArray} {l d : Tr} (hl : l.isL = true) (hd : d.isF = true) : (Tr.mk k n s l d).dep = 1 + ((Tr.mk k n s l d).parts.map Tr.dep).foldr max 0 := by
 simp only [Tr.dep, Tr.parts]
 split
 ·rw [Tr.dep_lst l (.inl hl)]
 ·split
  ·rw [Tr.dep_lst d (.inr hd)]
  ·rfl
def NodC (n : Nat) : Prop := ∀ (t : Tr), t.sz ≤ n → ∀ (w : World) (F : Nat → Prop) (cs : List Value) (mo : Int), VAt w F t cs → 1 ≤ mo → mo ≤ 2000 → Calls Tryz.prog 56 #[.agg cs.toArray, .int .i64 mo] w fun e w' => e = .returned (.int .i64 (min (t.nod : Int) mo)) ∧ Below w.heap.size w w'
def DepC (n : Nat) : Prop := ∀ (t : Tr), t.sz ≤ n → ∀ (w : World) (F : Nat → Prop) (cs : List Value) (mo : Int), VAt w F t cs → 1 ≤ mo → mo ≤ 2000 → Calls Tryz.prog 57 #[.agg cs.toArray, .int .i64 mo] w fun e w' => e = .returned (.int .i64 (min (t.dep : Int) mo)) ∧ Below w.heap.size w w'
theorem clo_nod {n : Nat} (hn : NodC n) (p : Tr) (hp : p.sz ≤ n) (C M : Nat) (mo s : Int) (F : Nat → Prop) (w : World) (ps : List Value) (hv : VAt w F p ps) (hF : ∀ k, F k → k ≠ C) (hCM : C ≠ M) (hC : Box w C [.int .i64 s]) (hM : Box w M [.int .i64 mo]) (h1 : 1 ≤ s ∧ s < mo) (hmo : mo ≤ 2000) :
  Calls Tryz.prog 85 #[.agg ps.toArray, .pointer (some ⟨C, 0, none⟩), .pointer (some ⟨M, 0, none⟩)] w fun e w' => e = .returned (.bool (decide (s + min ((p.nod : Nat) : Int) (mo - s) < mo))) ∧ Box w' C [.int .i64 (s + min ((p.nod : Nat) : Int) (mo - s))] ∧ w.grownBy w' (some C) := by
 have hps := hv.len
 refine cv3 Tryz.func85 rfl rfl rfl fun a hf => ?_
 have hX := Bx.start w
 clear hX
 have hX0 := Bx.bare w (fun k => k ≠ C)
 have hX := hX0.add hC (Nat.zero_le _) (fun x h => by cases h) (fun p hp _ => by rw [List.mem_singleton.1 hp]; exact fun h => h rfl)
 clear hX0
 refine gc hf ?_
 intro a hf
 refine sv_box hf hX rfl dd (fun a C1 W hC hf hX hA => ?_)
 clear hC hA
 refine go hf ?_
 intro a hf
 refine wp_region_ordW 8 7 [(0, 1), (1, 1), (2, 1), (3, 1), (4, 0), (5, 2), (6, 0), (7, 3)] (fun X => Bx ⟨bare w, [(w, fun k => k ≠ C)]⟩ [(C1, ps), (C, [.int .i64 s])] X) mixed (by kernel_rfl) hX.drew (fun c a d v w h => by cases d <;> exact h) ?_
 replace hX := hX.drew
 refine ov1 hf rfl rfl dd rfl (fun X hS => ex_vlc (cs := [.int .i64 s]) hf rfl rfl (hS.get (i := 1) rfl) rfl u3 rfl) (fun a hf => ?_)
 refine ov1 hf rfl rfl dd rfl (fun X hS => ex_vlr (cs := ps) hf rfl rfl (hS.get (i := 0) rfl) u29 (by rw [hps]; exact info_val)) (fun a hf => ?_)
 refine ov1 hf rfl rfl dd rfl (fun X hS => ex_vlm hf rfl rfl ((hS.box_later List.mem_cons_self (fun e => hCM e.symm) hM).cell 0 _ rfl) u3 rfl) (fun a hf => ?_)
 refine ov1 hf rfl rfl dd rfl (fun X hS => ex_vlc (cs := [.int .i64 s]) hf rfl rfl (hS.get (i := 1) rfl) rfl u3 rfl) (fun a hf => ?_)
 refine ov0 hf rfl rfl dd rfl (fun X => ex_sub hf rfl rfl rfl (wrap_in (by omega))) (fun a hf => ?_)
 refine ov2c hf rfl rfl dd rfl rfl fnOK_56 rfl (hn p hp _ F ps (mo - s) (hv.kept (hX.bas _ List.mem_cons_self).1 (fun k hk hlt => (hX.bas _ List.mem_cons_self).2 k hlt (hF k hk)) (fun _ h _ => h)) (by omega) (by omega)) ?_
 rintro e W ⟨rfl, hb⟩
 replace hX := hX.keep hb
 clear hb
 refine ⟨_, rfl, hX, fun a hf => ?_⟩
 refine ov0 hf rfl rfl dd rfl (fun X => ex_addk hf rfl rfl rfl (wrap_in (by omega))) (fun a hf => ?_)
 have hbS := hX.get (i := 1) (C := C) (cs := [.int .i64 s]) rfl
 refine ov3 rfl rfl rfl (ex_store_cell _ _ _ C 0 (.int .i64 (s + min ((p.nod : Nat) : Int) (mo - s))) rfl (hf.ev rfl) (hf.ev rfl) (hbS.there 0 1 dd) info_int rfl) ?_
 replace hX := hX.set (i := 1) rfl (hbS.setCell 0 (.int .i64 (s + min ((p.nod : Nat) : Int) (mo - s))) (of_decide_eq_true rfl)) (Only.setCell _ C 0 _)
 clear hbS
 refine wpOrd_nil ?_
 refine gc hf ?_
 intro a hf
 refine sv_lm hf rfl ((hX.box_later List.mem_cons_self (fun e => hCM e.symm) hM).cell 0 _ rfl) u3 rfl dd (fun a hf => ?_)
 rcases Decidable.em (s + min ((p.nod : Nat) : Int) (mo - s) < mo) with hq2 | hq2
 ·
  refine ct hf hq2 fun a hf => ?_
  refine go hf ?_
  intro a hf
  refine bodyPost_ret (res_tmp (d := 4) (v := .bool true) rfl (hf.rel 4 _ rfl)) hf.defers ⟨by rw [decide_eq_true hq2], hX.get (i := 1) rfl, ⟨hX.low.os, hX.low.tape, hX.low.output, (hX.bas _ List.mem_cons_self).1, fun k hk hne => (hX.bas _ List.mem_cons_self).2 k hk (fun e => hne (by rw [e]))⟩⟩
 ·
  refine cf hf hq2 fun a hf => ?_
  refine go hf ?_
  intro a hf
  refine bodyPost_ret (res_tmp (d := 4) (v := .bool false) rfl (hf.rel 4 _ rfl)) hf.defers ⟨by rw [decide_eq_false hq2], hX.get (i := 1) rfl, ⟨hX.low.os, hX.low.tape, hX.low.output, (hX.bas _ List.mem_cons_self).1, fun k hk hne => (hX.bas _ List.mem_cons_self).2 k hk (fun e => hne (by rw [e]))⟩⟩
theorem clo_dep {n : Nat} (hn : DepC n) (p : Tr) (hp : p.sz ≤ n) (C M : Nat) (mo s : Int) (F : Nat → Prop) (w : World) (ps : List Value) (hv : VAt w F p ps) (hF : ∀ k, F k → k ≠ C) (hCM : C ≠ M) (hC : Box w C [.int .i64 s]) (hM : Box w M [.int .i64 mo]) (h1 : 0 ≤ s ∧ s < mo - 1) (hmo : mo ≤ 2000) :
  Calls Tryz.prog 86 #[.agg ps.toArray, .pointer (some ⟨C, 0, none⟩), .pointer (some ⟨M, 0, none⟩)] w fun e w' => e = .returned (.bool (decide (max s (min ((p.dep : Nat) : Int) (mo - 1)) < mo - 1))) ∧ Box w' C [.int .i64 (max s (min ((p.dep : Nat) : Int) (mo - 1)))] ∧ w.grownBy w' (some C) := by
 have hps := hv.len
 refine cv3 Tryz.func86 rfl rfl rfl fun a hf => ?_
 have hX := Bx.start w
 clear hX
 have hX0 := Bx.bare w (fun k => k ≠ C)
 have hX := hX0.add hC (Nat.zero_le _) (fun x h => by cases h) (fun p hp _ => by rw [List.mem_singleton.1 hp]; exact fun h => h rfl)
 clear hX0
 refine gc hf ?_
 intro a hf
 refine sv_box hf hX rfl dd (fun a C1 W hC hf hX hA => ?_)
 clear hC hA
 refine go hf ?_
 intro a hf
 refine wp_region_ordW 7 6 [(0, 1), (1, 1), (2, 1), (3, 0), (4, 2), (5, 0), (6, 3)] (fun X => Bx ⟨bare w, [(w, fun k => k ≠ C)]⟩ [(C1, ps), (C, [.int .i64 s])] X) mixed (by kernel_rfl) hX.drew (fun c a d v w h => by cases d <;> exact h) ?_
 replace hX := hX.drew
 refine ov1 hf rfl rfl dd rfl (fun X hS => ex_vlc (cs := [.int .i64 s]) hf rfl rfl (hS.get (i := 1) rfl) rfl u3 rfl) (fun a hf => ?_)
 refine ov1 hf rfl rfl dd rfl (fun X hS => ex_vlr (cs := ps) hf rfl rfl (hS.get (i := 0) rfl) u29 (by rw [hps]; exact info_val)) (fun a hf => ?_)
 refine ov1 hf rfl rfl dd rfl (fun X hS => ex_vlm hf rfl rfl ((hS.box_later List.mem_cons_self (fun e => hCM e.symm) hM).cell 0 _ rfl) u3 rfl) (fun a hf => ?_)
 refine ov0 hf rfl rfl dd rfl (fun X => ex_sub hf rfl rfl rfl (wrap_in (by omega))) (fun a hf => ?_)
 refine ov2c hf rfl rfl dd rfl rfl fnOK_57 rfl (hn p hp _ F ps (mo - 1) (hv.kept (hX.bas _ List.mem_cons_self).1 (fun k hk hlt => (hX.bas _ List.mem_cons_self).2 k hlt (hF k hk)) (fun _ h _ => h)) (by omega) (by omega)) ?_
 rintro e W ⟨rfl, hb⟩
 replace hX := hX.keep hb
 clear hb
 refine ⟨_, rfl, hX, fun a hf => ?_⟩
 refine ov0 hf rfl rfl dd rfl (fun X => ex_max hf rfl rfl rfl u3) (fun a hf => ?_)
 have hbS := hX.get (i := 1) (C := C) (cs := [.int .i64 s]) rfl
 refine ov3 rfl rfl rfl (ex_store_cell _ _ _ C 0 (.int .i64 (max s (min ((p.dep : Nat) : Int) (mo - 1)))) rfl (hf.ev rfl) (hf.ev rfl) (hbS.there 0 1 dd) info_int rfl) ?_
 replace hX := hX.set (i := 1) rfl (hbS.setCell 0 (.int .i64 (max s (min ((p.dep : Nat) : Int) (mo - 1)))) (of_decide_eq_true rfl)) (Only.setCell _ C 0 _)
 clear hbS
 refine wpOrd_nil ?_
 refine gc hf ?_
 intro a hf
 refine sv_lm hf rfl ((hX.box_later List.mem_cons_self (fun e => hCM e.symm) hM).cell 0 _ rfl) u3 rfl dd (fun a hf => ?_)
 refine sv_sub (mo - 1) hf rfl rfl (wrap_in (by omega)) dd (fun a hf => ?_)
 rcases Decidable.em (max s (min ((p.dep : Nat) : Int) (mo - 1)) < mo - 1) with hq2 | hq2
 ·
  refine ct hf hq2 fun a hf => ?_
  refine go hf ?_
  intro a hf
  refine bodyPost_ret (res_tmp (d := 4) (v := .bool true) rfl (hf.rel 4 _ rfl)) hf.defers ⟨by rw [decide_eq_true hq2], hX.get (i := 1) rfl, ⟨hX.low.os, hX.low.tape, hX.low.output, (hX.bas _ List.mem_cons_self).1, fun k hk hne => (hX.bas _ List.mem_cons_self).2 k hk (fun e => hne (by rw [e]))⟩⟩
 ·
  refine cf hf hq2 fun a hf => ?_
  refine go hf ?_
  intro a hf
  refine bodyPost_ret (res_tmp (d := 4) (v := .bool false) rfl (hf.rel 4 _ rfl)) hf.defers ⟨by rw [decide_eq_false hq2], hX.get (i := 1) rfl, ⟨hX.low.os, hX.low.tape, hX.low.output, (hX.bas _ List.mem_cons_self).1, fun k hk hne => (hX.bas _ List.mem_cons_self).2 k hk (fun e => hne (by rw [e]))⟩⟩
theorem nodC_all : ∀ n, NodC n
 | 0, t, ht, _, _, _, _, hv, _, _ => by obtain ⟨k, m, s, l, d, rfl⟩ := hv.isV; simp only [Tr.sz] at ht; omega
 | n + 1, t, ht, w, F, cs, mo, hv0, h1, hmo => by
  have hv := hv0.low
  have hps := hv.len
  have hn : NodC n := nodC_all n
  refine cv2 Tryz.func56 rfl rfl rfl fun a hf => ?_
  have hX := Bx.start w
  refine gc hf ?_
  intro a hf
  refine sv_box hf hX rfl dd (fun a C1 W hC hf hX hA => ?_)
  clear hC hA
  refine sv_box1 (v := .int .i64 mo) hf hX rfl rfl dd (fun a C2 W hC hf hX hA => ?_)
  clear hC hA
  refine go hf ?_
  intro a hf
  refine sv_alloc1 (v := .int .i64 0) hf hX zero_int rfl dd (fun a C3 W hC hf hX hA => ?_)
  clear hC hA
  refine sv_sc (cs' := [.int .i64 1]) hf hX rfl rfl 0 rfl dd rfl info_int rfl [(C3, [.int .i64 1]), (C2, [.int .i64 mo]), (C1, cs)] rfl (fun W hX hO => ?_)
  clear hO
  refine go hf ?_
  intro a hf
  rcases Decidable.em (1 = mo) with hq4 | hq4
  ·
   refine ct hf hq4 fun a hf => ?_
   refine go hf ?_
   intro a hf
   refine bodyPost_ret (res_tmp (d := 4) (v := .int .i64 1) rfl (hf.rel 4 _ rfl)) hf.defers ⟨?_, hX.low⟩
   obtain ⟨k, m, s, lt, dt, rfl⟩ := hv.isV
   obtain ⟨_, _, _, _, _, _, _, _, hLL, hDD⟩ := hv.parts
   obtain ⟨_, _, _, hl1, _⟩ := hLL
   obtain ⟨_, _, _, hd1, _⟩ := hDD
   rw [nod_parts hl1 hd1]
   exact congrArg (fun z => Ending.returned (Value.int .i64 z)) (mm6 _ _ (by omega))
  ·
   refine cf hf hq4 fun a hf => ?_
   refine go hf ?_
   intro a hf
   refine sv_lr (cs := cs) hf hX rfl 2 rfl u29 (by rw [hps]; exact info_val) dd (fun a hf => ?_)
   refine sv_mkf (vs := [.pointer (some ⟨C3, 0, none⟩), .pointer (some ⟨C2, 0, none⟩)]) hf rfl dd (fun a hf => ?_)
   have hgC := hX.ge _ (List.mem_of_getElem? (i := 0) rfl)
   have hCM : C3 ≠ C2 := fun e => by have := hX.nd 0 1 _ _ rfl rfl e; omega
   refine sv_call hf fnOK_84 rfl (each_any 85 fnOK_85 C3 C2 mo (fun s p => s + min ((p.nod : Nat) : Int) (mo - s)) (fun s => decide (s < mo)) (fun s => 1 ≤ s ∧ s < mo) (LowF w) t cs W (hv.kept hX.low.size (fun k hk _ => hX.low.block k hk) (fun _ h _ => h)) (fun k (hk : k < w.heap.size) e => by subst e; exact absurd hk (Nat.not_lt.2 hgC)) hCM 1 (hX.get (i := 0) rfl) (hX.get (i := 1) rfl) (by omega) (fun p hp s X ps hXs hs hvp hbC hbM => (clo_nod hn p (by have := Tr.sz_parts hp; omega) C3 C2 mo s (LowF w) X ps hvp (fun k (hk : k < w.heap.size) e => by subst e; exact absurd hk (Nat.not_lt.2 hgC)) hCM hbC hbM hs hmo).mono (fun e w2 hh => ⟨hh.1, hh.2.1, hh.2.2, fun hc => by have := of_decide_eq_true hc; omega⟩))) dd ?_
   rintro e W2 ⟨rfl, hb, hg⟩
   replace hX : Bx ⟨w, []⟩ [(C3, [.int .i64 (eachF (fun s p => s + min ((p.nod : Nat) : Int) (mo - s)) (fun s => decide (s < mo)) 1 t.parts)]), (C2, [.int .i64 mo]), (C1, cs)] W2 := hX.turn (i := 0) rfl hg hb
   clear hb hg
   obtain ⟨W, hWW⟩ : ∃ X, X = W2 := ⟨_, rfl⟩
   subst hWW
   have hE := each_nod mo t.parts 1 (by omega)
   refine ⟨_, rfl, fun a hf => ?_⟩
   refine go hf ?_
   intro a hf
   refine bodyPost_ret (res_tmp (d := 4) (v := .int .i64 (eachF (fun s p => s + min ((p.nod : Nat) : Int) (mo - s)) (fun s => decide (s < mo)) 1 t.parts)) rfl (hf.rel 4 _ rfl)) hf.defers ⟨?_, hX.low⟩
   obtain ⟨k, m, s, lt, dt, rfl⟩ := hv.isV
   obtain ⟨_, _, _, _, _, _, _, _, hLL, hDD⟩ := hv.parts
   obtain ⟨_, _, _, hl1, _⟩ := hLL
   obtain ⟨_, _, _, hd1, _⟩ := hDD
   rw [hE, nod_parts hl1 hd1]
   exact congrArg (fun z => Ending.returned (Value.int .i64 z)) (mm5 _ _)
theorem depC_all : ∀ n, DepC n
 | 0, t, ht, _, _, _, _, hv, _, _ => by obtain ⟨k, m, s, l, d, rfl⟩ := hv.isV; simp only [Tr.sz] at ht; omega
 | n + 1, t, ht, w, F, cs, mo, hv0, h1, hmo => by
  have hv := hv0.low
  have hps := hv.len
  have hn : DepC n := depC_all n
  refine cv2 Tryz.func57 rfl rfl rfl fun a hf => ?_
  have hX := Bx.start w
  refine gc hf ?_
  intro a hf
  refine sv_box hf hX rfl dd (fun a C1 W hC hf hX hA => ?_)
  clear hC hA
  refine sv_box1 (v := .int .i64 mo) hf hX rfl rfl dd (fun a C2 W hC hf hX hA => ?_)
  clear hC hA
  refine go hf ?_
  intro a hf
  rcases Decidable.em (mo = 1) with hq3 | hq3
  ·
   refine ct hf hq3 fun a hf => ?_
   refine go hf ?_
   intro a hf
   refine bodyPost_ret (res_tmp (d := 4) (v := .int .i64 1) rfl (hf.rel 4 _ rfl)) hf.defers ⟨?_, hX.low⟩
   obtain ⟨k, m, s, lt, dt, rfl⟩ := hv.isV
   obtain ⟨_, _, _, _, _, _, _, _, hLL, hDD⟩ := hv.parts
   obtain ⟨_, _, _, hl1, _⟩ := hLL
   obtain ⟨_, _, _, hd1, _⟩ := hDD
   rw [dep_parts hl1 hd1]
   exact congrArg (fun z => Ending.returned (Value.int .i64 z)) (mm6 _ _ (by omega))
  ·
   refine cf hf hq3 fun a hf => ?_
   refine go hf ?_
   intro a hf
   refine sv_alloc1 (v := .int .i64 0) hf hX zero_int rfl dd (fun a C4 W hC hf hX hA => ?_)
   clear hC hA
   refine sv_sc (cs' := [.int .i64 0]) hf hX rfl rfl 0 rfl dd rfl info_int rfl [(C4, [.int .i64 0]), (C2, [.int .i64 mo]), (C1, cs)] rfl (fun W hX hO => ?_)
   clear hO
   refine go hf ?_
   intro a hf
   refine sv_lr (cs := cs) hf hX rfl 2 rfl u29 (by rw [hps]; exact info_val) dd (fun a hf => ?_)
   refine sv_mkf (vs := [.pointer (some ⟨C4, 0, none⟩), .pointer (some ⟨C2, 0, none⟩)]) hf rfl dd (fun a hf => ?_)
   have hgC := hX.ge _ (List.mem_of_getElem? (i := 0) rfl)
   have hCM : C4 ≠ C2 := fun e => by have := hX.nd 0 1 _ _ rfl rfl e; omega
   refine sv_call hf fnOK_84 rfl (each_any 86 fnOK_86 C4 C2 mo (fun s p => max s (min ((p.dep : Nat) : Int) (mo - 1))) (fun s => decide (s < mo - 1)) (fun s => 0 ≤ s ∧ s < mo - 1) (LowF w) t cs W (hv.kept hX.low.size (fun k hk _ => hX.low.block k hk) (fun _ h _ => h)) (fun k (hk : k < w.heap.size) e => by subst e; exact absurd hk (Nat.not_lt.2 hgC)) hCM 0 (hX.get (i := 0) rfl) (hX.get (i := 1) rfl) (by omega) (fun p hp s X ps hXs hs hvp hbC hbM => (clo_dep hn p (by have := Tr.sz_parts hp; omega) C4 C2 mo s (LowF w) X ps hvp (fun k (hk : k < w.heap.size) e => by subst e; exact absurd hk (Nat.not_lt.2 hgC)) hCM hbC hbM hs hmo).mono (fun e w2 hh => ⟨hh.1, hh.2.1, hh.2.2, fun hc => by have := of_decide_eq_true hc; omega⟩))) dd ?_
   rintro e W2 ⟨rfl, hb, hg⟩
   replace hX : Bx ⟨w, []⟩ [(C4, [.int .i64 (eachF (fun s p => max s (min ((p.dep : Nat) : Int) (mo - 1))) (fun s => decide (s < mo - 1)) 0 t.parts)]), (C2, [.int .i64 mo]), (C1, cs)] W2 := hX.turn (i := 0) rfl hg hb
   clear hb hg
   obtain ⟨W, hWW⟩ : ∃ X, X = W2 := ⟨_, rfl⟩
   subst hWW
   have hE := each_dep (mo - 1) t.parts 0 (by omega) (by omega)
   refine ⟨_, rfl, fun a hf => ?_⟩
   refine go hf ?_
   intro a hf
   refine sv_add (1 + eachF (fun s p => max s (min ((p.dep : Nat) : Int) (mo - 1))) (fun s => decide (s < mo - 1)) 0 t.parts) hf rfl rfl (wrap_in (by omega)) dd (fun a hf => ?_)
   refine go hf ?_
   intro a hf
   refine bodyPost_ret (res_tmp (d := 4) (v := .int .i64 (1 + eachF (fun s p => max s (min ((p.dep : Nat) : Int) (mo - 1))) (fun s => decide (s < mo - 1)) 0 t.parts)) rfl (hf.rel 4 _ rfl)) hf.defers ⟨?_, hX.low⟩
   obtain ⟨k, m, s, lt, dt, rfl⟩ := hv.isV
   obtain ⟨_, _, _, _, _, _, _, _, hLL, hDD⟩ := hv.parts
   obtain ⟨_, _, _, hl1, _⟩ := hLL
   obtain ⟨_, _, _, hd1, _⟩ := hDD
   rw [hE, dep_parts hl1 hd1]
   exact congrArg (fun z => Ending.returned (Value.int .i64 z)) (mm7 _ _)
theorem str_at {s : ByteArray} {q : Nat} (hq : q < s.size) : s.data.toList[q]? = some (s[q]'hq) := by
 rw [List.getElem?_eq_getElem (by rw [size_list]; exact hq)]
 rfl
theorem isN_f1 {s : ByteArray} (h : (s.size : Int) < 1) : Tr.isN s = false := by
 unfold Tr.isN
 rw [decide_eq_false (show ¬ 1 ≤ s.size by omega)]
 simp
theorem isN_f2 {s : ByteArray} (h : 32 < (s.size : Int)) : Tr.isN s = false := by
 unfold Tr.isN
 rw [decide_eq_false (show ¬ s.size ≤ 32 by omega)]
 simp
theorem isN_f3 {s : ByteArray} {c : UInt8} (h0 : 0 < s.size) (hc : s[0]'h0 = c) (h : (c.toNat : Int) = 36) : Tr.isN s = false := by
  have h1 := str_at h0
  rw [hc] at h1
  have e : c = 36 := UInt8.toNat_inj.1 (by have : c.toNat = 36 := by omega
                                           rw [this]; rfl)
  unfold Tr.isN
  rw [List.head?_eq_getElem?, h1, e]
  simp
theorem isN_f4 {s : ByteArray} {q : Nat} {c : UInt8} (hq : q < s.size) (hc : s[q]'hq = c) (h : Tr.chN c = false) : Tr.isN s = false := by
 have h1 := str_at hq
 rw [hc] at h1
 unfold Tr.isN
 have : s.data.toList.all Tr.chN = false := by
  rw [List.all_eq_false]
  exact ⟨c, List.mem_of_getElem? h1, by rw [h]; decide⟩
 rw [this]
 simp
theorem isN_t {s : ByteArray} {c : UInt8} (h1 : ¬ (s.size : Int) < 1) (h2 : ¬ 32 < (s.size : Int)) (h0 : 0 < s.size) (hc : s[0]'h0 = c) (h3 : ¬ (c.toNat : Int) = 36) (h4 : s.data.toList.all Tr.chN = true) : Tr.isN s = true := by
 have h5 := str_at h0
 rw [hc] at h5
 unfold Tr.isN
 rw [List.head?_eq_getElem?, h5, h4, decide_eq_true (show 1 ≤ s.size by omega), decide_eq_true (show s.size ≤ 32 by omega), decide_eq_false (fun e => h3 (by have := Option.some.inj e; subst this; rfl))]
 rfl
theorem chN_step {s : ByteArray} {q : Nat} {c : UInt8} (hq : q < s.size) (hc : s[q]'hq = c) (h : (s.data.toList.take q).all Tr.chN = true) (h1 : ¬ (c.toNat : Int) < 33) (h2 : ¬ 126 < (c.toNat : Int)) (h3 : ¬ (c.toNat : Int) = 46) : (s.data.toList.take (q + 1)).all Tr.chN = true := by
 have h5 := str_at hq
 rw [hc] at h5
 rw [List.take_add_one, h5, List.all_append, h]
 unfold Tr.chN
 simp
 omega
theorem chN_f {c : UInt8} (h : (c.toNat : Int) < 33 ∨ 126 < (c.toNat : Int) ∨ (c.toNat : Int) = 46) : Tr.chN c = false := by
 unfold Tr.chN
 simp
 omega
theorem vname_any (s : ByteArray) (w : World) (hs : s.size ≤ maxLen) : Calls Tryz.prog 88 #[.string s] w fun e w' => e = .returned (.bool (Tr.isN s)) ∧ Below w.heap.size w w' := by
 have hs2 : s.size ≤ 9223372036854775807 := by unfold maxLen at hs; omega
 refine cv1 Tryz.func88 rfl rfl rfl fun a hf => ?_
 have hX := Bx.start w
 refine gc hf ?_
 intro a hf
 refine sv_lens hf rfl u9 dd (fun a hf => ?_)
 rcases Decidable.em (((s).size : Int) < 1) with hq1 | hq1
 ·
  refine ct hf hq1 fun a hf => ?_
  refine go hf ?_
  intro a hf
  exact rt hf rfl rfl ⟨by rw [isN_f1 hq1], hX.low⟩
 ·
  refine cf hf hq1 fun a hf => ?_
  refine go hf ?_
  intro a hf
  refine sv_lens hf rfl u9 dd (fun a hf => ?_)
  refine go hf ?_
  intro a hf
  rcases Decidable.em (32 < ((s).size : Int)) with hq2 | hq2
  ·
   refine ct hf hq2 fun a hf => ?_
   refine go hf ?_
   intro a hf
   exact rt hf rfl rfl ⟨by rw [isN_f2 hq2], hX.low⟩
  ·
   refine cf hf hq2 fun a hf => ?_
   refine go hf ?_
   intro a hf
   have hc0' : 0 < s.size := by omega
   obtain ⟨c0, hc0⟩ : ∃ c : UInt8, s[0]'hc0' = c := ⟨_, rfl⟩
   refine sv_run (v := .int .u8 ((c0.toNat : Nat) : Int)) hf dd (fun a hf => (by rw [← hc0]; exact ex_chr (k := 0) hf rfl rfl rfl u9 hc0')) (fun a hf => ?_)
   refine go hf ?_
   intro a hf
   rcases Decidable.em (((c0.toNat : Nat) : Int) = 36) with hq3 | hq3
   ·
    refine sv_run (v := .bool true) hf dd (fun a hf => ex_cmpk hf rfl rfl rfl (congrArg some (decide_eq_true hq3))) (fun a hf => ?_)
    refine go hf ?_
    intro a hf
    exact rt hf rfl rfl ⟨by rw [isN_f3 hc0' hc0 hq3], hX.low⟩
   ·
    refine sv_run (v := .bool false) hf dd (fun a hf => ex_cmpk hf rfl rfl rfl (congrArg some (decide_eq_false hq3))) (fun a hf => ?_)
    refine go hf ?_
    intro a hf
    refine sv_lens hf rfl u9 dd (fun a hf => ?_)
    refine go hf ?_
    intro a hf
    refine wp_block (wp_loop (fun a X => ∃ (q : Nat), FrV 39 [(0, .string s), (18, .int .i64 ((s).size : Int)), (19, .int .i64 (q : Int))] a ∧ Bx ⟨w, []⟩ [] X ∧ q ≤ s.size ∧ (s.data.toList.take q).all Tr.chN = true) (fun a _ => s.size - (intOf (a.eval (.tmp 19))).toNat) ⟨0, hf.sub (sub_cons rfl (sub_cons rfl (sub_cons rfl (sub_nil)))), hX, Nat.zero_le _, rfl⟩ ?_)
    clear hf hX
    rintro a W ⟨q, hf, hX, hq, hal⟩
    have hm19 : a.eval (.tmp 19) = .int .i64 (q : Int) := hf.rel 19 _ rfl
    rcases Decidable.em ((q : Int) < ((s).size : Int)) with hgo | hgo
    ·
     refine gc hf ?_
     intro a hf
     refine ct hf hgo fun a hf => ?_
     refine go hf ?_
     intro a hf
     refine wp_block ?_
     refine gc hf ?_
     intro a hf
     have hcq' : q < s.size := by omega
     obtain ⟨cq, hcq⟩ : ∃ c : UInt8, s[q]'hcq' = c := ⟨_, rfl⟩
     refine sv_run (v := .int .u8 ((cq.toNat : Nat) : Int)) hf dd (fun a hf => (by rw [← hcq]; exact ex_chr (k := q) hf rfl rfl rfl u9 hcq')) (fun a hf => ?_)
     rcases Decidable.em (((cq.toNat : Nat) : Int) < 33) with hq4 | hq4
     ·
      refine sv_run (v := .bool true) hf dd (fun a hf => ex_cmpk hf rfl rfl rfl (congrArg some (decide_eq_true hq4))) (fun a hf => ?_)
      refine go hf ?_
      intro a hf
      exact rt hf rfl rfl ⟨by rw [isN_f4 hcq' hcq (chN_f (.inl hq4))], hX.low⟩
     ·
      refine sv_run (v := .bool false) hf dd (fun a hf => ex_cmpk hf rfl rfl rfl (congrArg some (decide_eq_false hq4))) (fun a hf => ?_)
      refine go hf ?_
      intro a hf
      refine sv_run (v := .int .u8 ((cq.toNat : Nat) : Int)) hf dd (fun a hf => (by rw [← hcq]; exact ex_chr (k := q) hf rfl rfl rfl u9 hcq')) (fun a hf => ?_)
      refine go hf ?_
      intro a hf
      rcases Decidable.em (126 < ((cq.toNat : Nat) : Int)) with hq5 | hq5
      ·
       refine sv_run (v := .bool true) hf dd (fun a hf => ex_cmpk hf rfl rfl rfl (congrArg some (decide_eq_true hq5))) (fun a hf => ?_)
       refine go hf ?_
       intro a hf
       exact rt hf rfl rfl ⟨by rw [isN_f4 hcq' hcq (chN_f (.inr (.inl hq5)))], hX.low⟩
      ·
       refine sv_run (v := .bool false) hf dd (fun a hf => ex_cmpk hf rfl rfl rfl (congrArg some (decide_eq_false hq5))) (fun a hf => ?_)
       refine go hf ?_
       intro a hf
       refine sv_run (v := .int .u8 ((cq.toNat : Nat) : Int)) hf dd (fun a hf => (by rw [← hcq]; exact ex_chr (k := q) hf rfl rfl rfl u9 hcq')) (fun a hf => ?_)
       refine go hf ?_
       intro a hf
       rcases Decidable.em (((cq.toNat : Nat) : Int) = 46) with hq6 | hq6
       ·
        refine sv_run (v := .bool true) hf dd (fun a hf => ex_cmpk hf rfl rfl rfl (congrArg some (decide_eq_true hq6))) (fun a hf => ?_)
        refine go hf ?_
        intro a hf
        exact rt hf rfl rfl ⟨by rw [isN_f4 hcq' hcq (chN_f (.inr (.inr hq6)))], hX.low⟩
       ·
        refine sv_run (v := .bool false) hf dd (fun a hf => ex_cmpk hf rfl rfl rfl (congrArg some (decide_eq_false hq6))) (fun a hf => ?_)
        refine go hf ?_
        intro a hf
        refine sv_add ((q + 1 : Nat) : Int) hf rfl rfl (by rw [wrap_in (by omega)]; rfl) dd (fun a hf => ?_)
        refine go hf ?_
        intro a hf
        refine ⟨⟨q + 1, hf.sub (sub_cons rfl (sub_cons rfl (sub_cons rfl (sub_nil)))), hX, by omega, chN_step hcq' hcq hal hq4 hq5 hq6⟩, ?_⟩
        have h5 : a.eval (.tmp 19) = .int .i64 ((q + 1 : Nat) : Int) := hf.rel 19 _ rfl
        rw [h5, hm19]; simp only [intOf, Int.toNat_natCast]; omega
    ·
     refine gc hf ?_
     intro a hf
     refine cf hf hgo fun a hf => ?_
     refine go hf ?_
     intro a hf
     refine wp_exit ?_
     simp only [Exit.inBlock, Exit.then, ↓reduceIte]
     have hqe : q = s.size := by omega
     rw [hqe, List.take_of_length_le (by rw [size_list]; exact Nat.le_refl _)] at hal
     refine gc hf ?_
     intro a hf
     exact rt hf rfl rfl ⟨by rw [isN_t hq1 hq2 hc0' hc0 hq3 hal], hX.low⟩
def nmE : List Bs → Nat → List MapEntry
 | [], _ => []
 | p :: P, i => ⟨.string p, .bool true, i⟩ :: nmE P (i + 1)
def fndN (k : Bs) : List Bs → Nat → Option (Nat × Value)
 | [], _ => none
 | p :: P, i => if k = p then some (i, .bool true) else fndN k P (i + 1)
theorem findNow_N (k : Bs) : ∀ (P : List Bs) (i j : Nat), Instr.findNow .string (.string k) (nmE P j) i = some (fndN k P i)
 | [], _, _ => rfl
 | p :: P, i, j => by
  show (match Instr.sameNow .string (.string k) (.string p) with | some true => some (some (i, Value.bool true)) | some false => Instr.findNow .string (.string k) (nmE P (j + 1)) (i + 1) | none => none) = _
  have h : Instr.sameNow .string (.string k) (.string p) = some (decide (k = p)) := congrArg some (beq_bs k p)
  rw [h]
  unfold fndN
  by_cases hk : k = p
  ·rw [if_pos hk, decide_eq_true hk]
  ·rw [if_neg hk, decide_eq_false hk]; exact findNow_N k P (i + 1) (j + 1)
def inN (m : Bs) (P : List Bs) : Bool := P.any fun x => decide (x = m)
theorem fndN_none {k : Bs} : ∀ (P : List Bs) (i : Nat), inN k P = false → fndN k P i = none
 | [], _, _ => rfl
 | p :: P, i, h => by
  unfold inN at h
  rw [List.any_cons, Bool.or_eq_false_iff] at h
  unfold fndN
  rw [if_neg (fun e => of_decide_eq_false h.1 e.symm)]
  exact fndN_none P (i + 1) h.2
theorem fndN_some {k : Bs} : ∀ (P : List Bs) (i : Nat), inN k P = true → ∃ j, fndN k P i = some (j, .bool true)
 | [], _, h => by cases h
 | p :: P, i, h => by
  unfold fndN
  by_cases e : k = p
  ·rw [if_pos e]; exact ⟨i, rfl⟩
  ·rw [if_neg e]
   unfold inN at h
   rw [List.any_cons, decide_eq_false (fun e2 => e e2.symm), Bool.false_or] at h
   exact fndN_some P (i + 1) h
def NmAt (W : World) (m : Nat) (P : List Bs) : Prop := W.heap[m]? = some (.map (nmE P 0).toArray P.length)
theorem NmAt.lt {W : World} {m : Nat} {P : List Bs} (h : NmAt W m P) : m < W.heap.size := by
 unfold NmAt at h
 exact (Array.getElem?_eq_some_iff.1 h).1
theorem NmAt.block {W W' : World} {m : Nat} {P : List Bs} (h : NmAt W m P) (hk : W'.heap[m]? = W.heap[m]?) : NmAt W' m P := hk.trans h
theorem NmAt.below {W W' : World} {m : Nat} {P : List Bs} (h : NmAt W m P) (hb : Below W.heap.size W W') : NmAt W' m P := h.block (hb.block m h.lt)
theorem NmAt.only {W W' : World} {m c : Nat} {P : List Bs} (h : NmAt W m P) (ho : Only W W' c) (hne : m ≠ c) : NmAt W' m P := h.block (ho.heap m hne)
theorem run_lookN {W : World} {m : Nat} {P : List Bs} (h : NmAt W m P) (k : Bs) :
  (Instr.lookup 152 (.map (some m)) (.string k) false).run Tryz.prog W = .ok (.bool (inN k P)) W := by
 have h1 := findNow_N k P 0 0
 simp only [Instr.lookup, Sem.run_bind, run_underlying Tryz.underlying152, MapKept.run_getObj_map h, Result.andThen, Sem.run_pure]
 rw [MapKept.run_checkKey (d := .string) u9 (isKeyS k)]
 simp only [Result.andThen, Sem.run_bind]
 rw [MapKept.run_findKey (d := .string) u9 h1]
 cases hp : inN k P with
 | true =>
  obtain ⟨j, hj⟩ := fndN_some P 0 hp
  rw [hj]
  simp [Result.andThen]
 | false =>
  rw [fndN_none P 0 hp]
  simp [Result.andThen, zero_b]
theorem nmE_snoc (p : Bs) : ∀ (P : List Bs) (i : Nat), nmE (P ++ [p]) i = nmE P i ++ [⟨.string p, .bool true, i + P.length⟩]
 | [], i => rfl
 | q :: P, i => by
  show _ :: nmE (P ++ [p]) (i + 1) = _
  rw [nmE_snoc p P (i + 1), List.length_cons]
  show _ = _ :: (nmE P (i + 1) ++ _)
  rw [show i + 1 + P.length = i + (P.length + 1) by omega]
theorem run_updN {W : World} {m : Nat} {P : List Bs} (h : NmAt W m P) (k : Bs) (hp : inN k P = false) :
  (Instr.mapUpdate 152 (.map (some m)) (.string k) (.bool true)).run Tryz.prog W = .ok () (setBlock W m (.map (nmE (P ++ [k]) 0).toArray (P ++ [k]).length)) := by
 have h1 := findNow_N k P 0 0
 rw [fndN_none P 0 hp] at h1
 simp only [Instr.mapUpdate, Sem.run_bind, run_underlying Tryz.underlying152, MapKept.run_getObj_map h, Result.andThen, Sem.run_pure]
 rw [MapKept.run_checkKey (d := .string) u9 (isKeyS k)]
 simp only [Result.andThen, Sem.run_bind]
 rw [MapKept.run_findKey (d := .string) u9 h1]
 simp [Result.andThen, MapKept.run_setObj_map _ h, setBlock, nmE_snoc]
theorem setBlock_grown (W : World) (m : Nat) (o : Obj) : W.grownBy (setBlock W m o) (some m) :=
 ⟨rfl, rfl, rfl, by unfold setBlock; simp, fun k hk hne => by
  have : m ≠ k := fun e => hne (by rw [e])
  unfold setBlock
  simp [Array.getElem?_setIfInBounds, this]⟩
theorem setBlock_nm {W : World} {m : Nat} {P : List Bs} (h : m < W.heap.size) : NmAt (setBlock W m (.map (nmE P 0).toArray P.length)) m P := by
 unfold NmAt setBlock
 simp [Array.getElem?_setIfInBounds, h]
section
variable {N : Nat} {env : VEnv} {a : Act} {ops : Array Oper} {rest : List Oper} {Q : Exit → Act → World → Prop} {w : World} {b : Base} {l : List (Nat × List Value)} {d y x z : Nat} {ps : String} {af : Array Edge}
theorem sv_mkm {t : TypeId} (hf : FrV N env a) (hB : Bx b l w) (hd : d < N) (h : ∀ a' m w', m = w.heap.size → FrV N ((d, .map (some m)) :: env) a' → Bx b l w' → Below w.heap.size w w' → NmAt w' m [] → wpList Tryz.prog ops Q rest a' w') : wpList Tryz.prog ops Q ({ dst := some d, op := .makeMap t none, type := y, pos := ps, after := af, guard := none } :: rest) a w := by
 have hb : Below w.heap.size w (w.alloc (.map #[] 0)) := (Below.refl _ _).alloc (Nat.le_refl _) _
 refine wpList_ok rfl (v := .map (some w.heap.size)) (w' := w.alloc (.map #[] 0)) ?_ (h _ _ _ rfl (hf.put hd _) (hB.keep hb) hb ?_)
 ·unfold execOp
  simp only [Sem.run_bind]
  have := run_makeMap (P := Tryz.prog) t w
  show Result.andThen ((Instr.makeMap t none).run Tryz.prog w) _ = _
  rw [this]
  rfl
 ·unfold NmAt
  show (w.heap.push _)[w.heap.size]? = _
  exact Array.getElem?_push_size
theorem ex_lkn {o : Oper} {P : List Bs} {m : Nat} {k : Bs} {p q : Operand} (hf : FrV N env a) (ho : o.op = .lookup 152 p q false) (hN : NmAt w m P) (hp : ev env p = some (.map (some m))) (hq : ev env q = some (.string k)) : (execOp a.eval o).run Tryz.prog w = .ok (.value (.bool (inN k P))) w := by
 unfold execOp
 simp only [ho, hf.ev hp, hf.ev hq, Sem.run_bind]
 rw [run_lookN hN k]
 rfl
theorem sv_upn {P : List Bs} {m : Nat} {k : Bs} {p q : Operand} (hf : FrV N env a) (hB : Bx b l w) (hN : NmAt w m P) (hp : ev env p = some (.map (some m))) (hq : ev env q = some (.string k)) (hn : inN k P = false) (hge : b.w.heap.size ≤ m) (hne : ∀ x ∈ l, x.1 ≠ m) (hbs : ∀ q ∈ b.bs, m < q.1.heap.size → ¬ q.2 m) (h : ∀ w', Bx b l w' → NmAt w' m (P ++ [k]) → w.grownBy w' (some m) → wpList Tryz.prog ops Q rest a w') : wpList Tryz.prog ops Q ({ dst := none, op := .mapUpdate 152 p q (.const (.bool true)), type := y, pos := ps, after := af, guard := none } :: rest) a w := by
 have hg := setBlock_grown w m (.map (nmE (P ++ [k]) 0).toArray (P ++ [k]).length)
 refine wpList_done rfl rfl (w' := setBlock w m (.map (nmE (P ++ [k]) 0).toArray (P ++ [k]).length)) ?_ (h _ (hB.grown hg (fun k' e => by obtain rfl := Option.some.inj e; exact ⟨hge, hne, hbs⟩)) (setBlock_nm hN.lt) hg)
 unfold execOp
 simp only [hf.ev hp, hf.ev hq, Sem.run_bind]
 have hc : a.eval (.const (.bool true)) = .bool true := rfl
 rw [hc, run_updN hN k hn]
 rfl
end
theorem nms_false : ∀ (l seen pre : List Bs) (j : Nat) (m : Bs), (∀ x, inN x seen = inN x pre) → l[j]? = some m → (Tr.isN m = false ∨ inN m (pre ++ l.take j) = true) → Tr.nmsOK seen l = false
 | [], _, _, _, _, _, h, _ => by simp at h
 | a :: l, seen, pre, 0, m, hs, h, hc => by
  obtain rfl := Option.some.inj h
  have e : Tr.nmsOK seen (a :: l) = (Tr.isN a && !inN a seen && Tr.nmsOK (a :: seen) l) := rfl
  rw [e, hs]
  rcases hc with hc | hc
  ·rw [hc]; rfl
  ·simp only [List.take_zero, List.append_nil] at hc
   rw [hc]; simp
 | a :: l, seen, pre, j + 1, m, hs, h, hc => by
  have e : Tr.nmsOK seen (a :: l) = (Tr.isN a && !inN a seen && Tr.nmsOK (a :: seen) l) := rfl
  rw [e, nms_false l (a :: seen) (pre ++ [a]) j m (fun x => by
   have := hs x
   unfold inN at this ⊢
   rw [List.any_cons, List.any_append, this, Bool.or_comm]
   simp) h (by rw [List.append_assoc]; exact hc)]
  simp
theorem nms_true : ∀ (l seen pre : List Bs), (∀ x, inN x seen = inN x pre) → (∀ j m, l[j]? = some m → Tr.isN m = true ∧ inN m (pre ++ l.take j) = false) → Tr.nmsOK seen l = true
 | [], _, _, _, _ => rfl
 | a :: l, seen, pre, hs, hc => by
  have e : Tr.nmsOK seen (a :: l) = (Tr.isN a && !inN a seen && Tr.nmsOK (a :: seen) l) := rfl
  have h0 := hc 0 a rfl
  simp only [List.take_zero, List.append_nil] at h0
  rw [e, hs, h0.1, h0.2, nms_true l (a :: seen) (pre ++ [a]) (fun x => by
   have := hs x
   unfold inN at this ⊢
   rw [List.any_cons, List.any_append, this, Bool.or_comm]
   simp) (fun j m hj => by
   have := hc (j + 1) m hj
   rwa [List.append_assoc])]
  rfl
theorem snd_lst : ∀ l : Tr, l.isL = true ∨ l.isF = true → l.snd = l.lst.all Tr.snd
 | .nil, _ => rfl
 | .lcons t r, h => by
  have := snd_lst r (by rcases h with h | h; exact .inl h; cases h)
  show (t.snd && r.snd) = _
  rw [this]; rfl
 | .fcons _ t r, h => by
  have := snd_lst r (by rcases h with h | h; cases h; exact .inr h)
  show (t.snd && r.snd) = _
  rw [this]; rfl
 | .mk _ _ _ _ _, h => by rcases h with h | h <;> cases h
theorem all_step {l : List Tr} {q : Nat} {p : Tr} (h : (l.take q).all Tr.snd = true) (hp : l[q]? = some p) (hs : p.snd = true) : (l.take (q + 1)).all Tr.snd = true := by
 rw [List.take_add_one, hp, List.all_append, h, Option.toList_some, List.all_cons, hs]; rfl
theorem all_no {l : List Tr} {q : Nat} {p : Tr} (hp : l[q]? = some p) (hs : p.snd = false) : l.all Tr.snd = false := by
 rw [List.all_eq_false]
 exact ⟨p, List.mem_of_getElem? hp, by rw [hs]; decide⟩
theorem size0 {s : ByteArray} : s = ⟨#[]⟩ ↔ s.size = 0 := by
 constructor
 ·rintro rfl; rfl
 ·intro h; obtain ⟨⟨l⟩⟩ := s
  have : l.length = 0 := h
  rw [List.eq_nil_of_length_eq_zero this]
def SndC (n : Nat) : Prop := ∀ (t : Tr), t.sz ≤ n → ∀ (w : World) (F : Nat → Prop) (cs : List Value), U8 w → VAt w F t cs → Calls Tryz.prog 33 #[.agg cs.toArray] w fun e w' => e = .returned (.bool t.snd) ∧ Below w.heap.size w w'
theorem utf_any (s : ByteArray) (w : World) (hU : U8 w) (hs : s.size ≤ maxLen) : Calls Tryz.prog 58 #[.string s] w fun e w' => e = .returned (.bool (Lib.validD s.data.toList)) ∧ Below w.heap.size w w' :=
 Any.utf8_ValidString Tryz.laysValid s w (by unfold maxLen at hs; omega) hU.1
theorem sndF_of {n : Nat} (hn : SndC n) (dt : Tr) (hsz : ∀ p ∈ dt.lst, p.sz ≤ n) (w : World) (F : Nat → Prop) (v : Value) (hU : U8 w) (hv0 : FAt w F dt v) : Calls Tryz.prog 59 #[v] w fun e w' => e = .returned (.bool (dt.snd && Tr.nmsOK [] dt.nms)) ∧ Below w.heap.size w w' := by
 have hv := hv0.low
 obtain ⟨da, dc, rfl, hdF, hdm, hdx, _⟩ := id hv
 have hdm2 : dt.len ≤ 9223372036854775807 := by unfold maxLen at hdx; omega
 refine cv1 Tryz.func59 rfl rfl rfl fun a hf => ?_
 have hX := Bx.start w
 have hw0 : w.heap.size ≤ w.heap.size := Nat.le_refl _
 have hU1 := hU.2
 refine gc hf ?_
 intro a hf
 refine sv_mkm hf hX dd (fun a m1 W hm hf hX hA hN => ?_)
 have hwm := Nat.le_trans hw0 (Nat.le_of_eq hm.symm)
 replace hU := hU.below hA
 clear hm hA
 refine go hf ?_
 intro a hf
 refine sv_len hf rfl u27 dd (fun a hf => ?_)
 refine go hf ?_
 intro a hf
 refine wp_block (wp_loop (fun a X => ∃ (q : Nat), FrV 33 [(3, .map (some m1)), (7, .slice da dt.len dc), (8, .int .i64 ((dt.len : Nat) : Int)), (9, .int .i64 (q : Int))] a ∧ Bx ⟨w, []⟩ [] X ∧ q ≤ dt.len ∧ NmAt X m1 (dt.nms.take q) ∧ U8 X ∧ (dt.lst.take q).all Tr.snd = true ∧ (∀ j m, j < q → dt.nms[j]? = some m → Tr.isN m = true ∧ inN m (dt.nms.take j) = false)) (fun a _ => dt.len - (intOf (a.eval (.tmp 9))).toNat) ⟨0, hf.sub (sub_cons rfl (sub_cons rfl (sub_cons rfl (sub_cons rfl (sub_nil))))), hX, Nat.zero_le _, hN, hU, rfl, fun j m hj => absurd hj (Nat.not_lt_zero j)⟩ ?_)
 clear hf hX hN hU
 rintro a W ⟨q, hf, hX, hq, hN, hU, hal, hnms⟩
 have hm9 : a.eval (.tmp 9) = .int .i64 (q : Int) := hf.rel 9 _ rfl
 rcases Decidable.em ((q : Int) < ((dt.len : Nat) : Int)) with hgo | hgo
 ·
  refine gc hf ?_
  intro a hf
  refine ct hf hgo fun a hf => ?_
  refine go hf ?_
  intro a hf
  refine wp_block ?_
  have hq2 : q < dt.len := by omega
  obtain ⟨LB, LO, _, p, mn, ps, hsl, hFB, hLB, hpq, hmq, hms, hps, hr, hvp⟩ := hv.get hq2
  obtain ⟨rfl, _, _⟩ := Value.slice.inj hsl
  have hones := hvp.ones
  refine gc hf ?_
  intro a hf
  refine sv_idx (k := 6) (q := q) hf rfl rfl (by omega) u27 einfo_flds dd (fun a hf => ?_)
  refine sv_lrr (cs := (.string mn :: ps)) hf rfl (rep_row_mono hr (hX.low.block LB hLB)) u78 (by show _ = some (ps.length + 1); rw [hps]; exact info_fld) dd (fun a hf => ?_)
  refine sv_alloc (zs := [.string ⟨#[]⟩, .int .i64 0, .int .i64 0, .string ⟨#[]⟩, .slice none 0 0, .slice none 0 0]) hf hX zero_fld dd (fun a C2 W hC hf hX hA => ?_)
  have hnm : C2 ≠ m1 := fun e => by have := hN.lt; omega
  replace hN := hN.below hA
  have h1C2 := Nat.lt_of_lt_of_eq hU.2 hC.symm
  replace hU := hU.below hA
  clear hC hA
  refine sv_sr hf hX rfl rfl 0 rfl (by show ps.length + 1 = _; rw [hps]; rfl) (by show _ = some (ps.length + 1); rw [hps]; exact info_fld) (fun v hv => by rcases List.mem_cons.1 hv with rfl | hv; rfl; exact hones v hv) [(C2, (.string mn :: ps))] rfl (fun W hX hO => ?_)
  replace hN := hN.only hO (fun e => hnm e.symm)
  replace hU := hU.kept (Nat.le_of_eq hO.size.symm) (hO.heap 0 (fun e => by omega)) (hO.heap 1 (fun e => by omega))
  clear hO
  refine go hf ?_
  intro a hf
  refine sv_fld hf rfl u78 rfl sz_str (0) rfl dd (fun a hf => ?_)
  refine go hf ?_
  intro a hf
  obtain ⟨bn, hbn⟩ : ∃ b, b = Tr.isN mn := ⟨_, rfl⟩
  have hcc := vname_any mn W hms
  rw [← hbn] at hcc
  refine sv_call hf fnOK_88 rfl (hcc) dd ?_
  rintro e W ⟨rfl, hb⟩
  replace hX := hX.keep hb
  replace hU := hU.below hb
  replace hN := hN.below hb
  clear hb hcc
  refine ⟨_, rfl, fun a hf => ?_⟩
  cases bn
  ·
   refine go hf ?_
   intro a hf
   exact rt hf rfl rfl ⟨bQ (Eq.symm (by rw [nms_false dt.nms [] [] q mn (fun _ => rfl) hmq (.inl hbn.symm), Bool.and_false])), hX.low⟩
  ·
   refine go hf ?_
   intro a hf
   refine sv_fld hf rfl u78 rfl sz_str (0) rfl dd (fun a hf => ?_)
   refine go hf ?_
   intro a hf
   obtain ⟨bl, hbl⟩ : ∃ b, b = inN mn (dt.nms.take q) := ⟨_, rfl⟩
   refine sv_run (v := .bool bl) hf dd (fun a hf => by rw [hbl]; exact ex_lkn hf rfl hN rfl rfl) (fun a hf => ?_)
   refine go hf ?_
   intro a hf
   cases bl
   ·
    refine go hf ?_
    intro a hf
    refine sv_fld hf rfl u78 rfl sz_val (1) rfl dd (fun a hf => ?_)
    refine go hf ?_
    intro a hf
    refine sv_lrr (cs := ps) hf rfl (fun j u hu => by have := (hX.get (i := 0) rfl).cell (j + 1) u hu; rwa [Nat.add_comm j 1] at this) u29 (by rw [hps]; exact info_val) dd (fun a hf => ?_)
    refine go hf ?_
    intro a hf
    obtain ⟨bs, hbs⟩ : ∃ b, b = p.snd := ⟨_, rfl⟩
    have hcc := hn p (hsz p (List.mem_of_getElem? hpq)) W (LowF w) ps hU (hvp.kept hX.low.size (fun k hk _ => hX.low.block k hk) (fun _ h _ => h))
    rw [← hbs] at hcc
    refine sv_call hf fnOK_33 rfl (hcc) dd ?_
    rintro e W ⟨rfl, hb⟩
    replace hX := hX.keep hb
    replace hU := hU.below hb
    replace hN := hN.below hb
    clear hb hcc
    refine ⟨_, rfl, fun a hf => ?_⟩
    refine go hf ?_
    intro a hf
    cases bs
    ·
     refine go hf ?_
     intro a hf
     exact rt hf rfl rfl ⟨bQ (Eq.symm (by rw [snd_lst dt (.inr hdF), all_no hpq hbs.symm]; rfl)), hX.low⟩
    ·
     refine go hf ?_
     intro a hf
     refine sv_fld hf rfl u78 rfl sz_str (0) rfl dd (fun a hf => ?_)
     refine go hf ?_
     intro a hf
     refine sv_upn (k := mn) hf hX hN rfl rfl hbl.symm hwm (fun y hy e => by simp only [List.mem_cons, List.not_mem_nil, or_false] at hy; rcases hy with rfl; exact hnm e) (fun q hq => by cases hq) (fun W hX hN2 hg => ?_)
     replace hU := hU.kept hg.size (hg.block 0 (Nat.lt_trans (by decide) hU.2) (fun e => by have := Option.some.inj e; omega)) (hg.block 1 hU.2 (fun e => by have := Option.some.inj e; omega))
     have hN := hN2
     clear hN2 hg
     refine go hf ?_
     intro a hf
     refine sv_add ((q + 1 : Nat) : Int) hf rfl rfl (by rw [wrap_in (by omega)]; rfl) dd (fun a hf => ?_)
     refine go hf ?_
     intro a hf
     have hN2 : NmAt W m1 (dt.nms.take (q + 1)) := by rw [List.take_add_one, hmq]; exact hN
     refine ⟨⟨q + 1, hf.sub (sub_cons rfl (sub_cons rfl (sub_cons rfl (sub_cons rfl (sub_nil))))), hX.sub, by omega, hN2, hU, all_step hal hpq hbs.symm, fun j m hj hm => ?_⟩, ?_⟩
     ·by_cases e : j = q
      ·subst e; rw [hmq] at hm; obtain rfl := Option.some.inj hm; exact ⟨hbn.symm, hbl.symm⟩
      ·exact hnms j m (by omega) hm
     have h5 : a.eval (.tmp 9) = .int .i64 ((q + 1 : Nat) : Int) := hf.rel 9 _ rfl
     rw [h5, hm9]; simp only [intOf, Int.toNat_natCast]; omega
   ·
    refine go hf ?_
    intro a hf
    exact rt hf rfl rfl ⟨bQ (Eq.symm (by rw [nms_false dt.nms [] [] q mn (fun _ => rfl) hmq (.inr hbl.symm), Bool.and_false])), hX.low⟩
 ·
  refine gc hf ?_
  intro a hf
  refine cf hf hgo fun a hf => ?_
  refine go hf ?_
  intro a hf
  refine wp_exit ?_
  simp only [Exit.inBlock, Exit.then, ↓reduceIte]
  have hqe : q = dt.len := by omega
  rw [hqe, List.take_length] at hal
  refine gc hf ?_
  intro a hf
  exact rt hf rfl rfl ⟨bQ (Eq.symm (by rw [snd_lst dt (.inr hdF), hal, nms_true dt.nms [] [] (fun _ => rfl) (fun j m hj => hnms j m (by rw [hqe, ← Tr.nms_len dt hdF]; exact (List.getElem?_eq_some_iff.1 hj).1) hj)]; rfl)), hX.low⟩
theorem lst_ne {t : Tr} (h : 0 < ((t.len : Nat) : Int)) : ¬ t.lst = [] := fun e => by
 have h1 : t.len = 0 := by show t.lst.length = 0; rw [e]; rfl
 rw [h1] at h
 exact absurd h (by decide)
theorem lst_eq {t : Tr} (h : ¬ 0 < ((t.len : Nat) : Int)) : t.lst = [] := List.eq_nil_of_length_eq_zero (show t.len = 0 by omega)
theorem snd_K1 {n0 : Nat} (hn : SndC n0) (n : Int) (s : ByteArray) (lt dt : Tr) (hsz0 : (Tr.mk 1 n s lt dt).sz ≤ n0 + 1) (w : World) (F : Nat → Prop) (cs : List Value) (hU : U8 w) (hv0 : VAt w F (Tr.mk 1 n s lt dt) cs) : Calls Tryz.prog 33 #[.agg cs.toArray] w fun e w' => e = .returned (.bool (Tr.mk 1 n s lt dt).snd) ∧ Below w.heap.size w w' := by
 have hv := hv0.low
 obtain ⟨la, lc, da, dc, rfl, wk, wn, ws, hL, hD⟩ := hv.parts
 obtain ⟨_, _, e1, hlL, hl1, hl2, _⟩ := id hL
 obtain ⟨_, _, rfl⟩ := Value.slice.inj e1
 obtain ⟨_, _, e2, hdF, hd1, hd2, _⟩ := id hD
 obtain ⟨_, _, rfl⟩ := Value.slice.inj e2
 have hlm : lt.len ≤ 9223372036854775807 := by unfold maxLen at hl2; omega
 have hdm : dt.len ≤ 9223372036854775807 := by unfold maxLen at hd2; omega
 simp only [Tr.sz] at hsz0
 refine cv1 Tryz.func33 rfl rfl rfl fun a hf => ?_
 have hX := Bx.start w
 refine gc hf ?_
 intro a hf
 refine sv_box hf hX rfl dd (fun a C1 W hC hf hX hA => ?_)
 have h1C1 := Nat.lt_of_lt_of_eq hU.2 hC.symm
 replace hU := hU.below hA
 clear hC hA
 refine go hf ?_
 intro a hf
 rcases Decidable.em (n = 0) with hq2 | hq2
 ·
  refine nt hf hq2 fun a hf => ?_
  refine go hf ?_
  intro a hf
  rcases Decidable.em (s = ⟨#[]⟩) with hq3 | hq3
  ·
   refine sv_run (v := .bool false) hf dd (fun a hf => ex_cmps hf rfl u9 rfl rfl (.inr ⟨rfl, by rw [decide_eq_true hq3]; rfl⟩)) (fun a hf => ?_)
   refine go hf ?_
   intro a hf
   refine sv_len hf rfl u26 dd (fun a hf => ?_)
   refine go hf ?_
   intro a hf
   rcases Decidable.em (0 < ((lt.len : Nat) : Int)) with hq4 | hq4
   ·
    refine ct hf hq4 fun a hf => ?_
    refine go hf ?_
    intro a hf
    have z0 := hq2
    have z1 : s.size = 0 := size0.1 hq3
    have z2 : ¬ lt.lst = [] := lst_ne hq4
    exact rt hf rfl rfl ⟨bQ (by unfold Tr.snd; simp [z0, z1, z2]), hX.low⟩
   ·
    refine cf hf hq4 fun a hf => ?_
    refine go hf ?_
    intro a hf
    refine sv_len hf rfl u27 dd (fun a hf => ?_)
    refine go hf ?_
    intro a hf
    rcases Decidable.em (0 < ((dt.len : Nat) : Int)) with hq5 | hq5
    ·
     refine ct hf hq5 fun a hf => ?_
     refine go hf ?_
     intro a hf
     have z0 := hq2
     have z1 : s.size = 0 := size0.1 hq3
     have z2 : lt.lst = [] := lst_eq hq4
     have z3 : ¬ dt.lst = [] := lst_ne hq5
     exact rt hf rfl rfl ⟨bQ (by unfold Tr.snd; simp [z0, z1, z2, z3]), hX.low⟩
    ·
     refine cf hf hq5 fun a hf => ?_
     refine go hf ?_
     intro a hf
     refine wp_block ?_
     refine gc hf ?_
     intro a hf
     have z0 := hq2
     have z1 : s.size = 0 := size0.1 hq3
     have z2 : lt.lst = [] := lst_eq hq4
     have z3 : dt.lst = [] := lst_eq hq5
     exact rt hf rfl rfl ⟨bQ (by unfold Tr.snd; simp [z0, z1, z2, z3]), hX.low⟩
  ·
   refine sv_run (v := .bool true) hf dd (fun a hf => ex_cmps hf rfl u9 rfl rfl (.inr ⟨rfl, by rw [decide_eq_false hq3]; rfl⟩)) (fun a hf => ?_)
   refine go hf ?_
   intro a hf
   have z0 := hq2
   have z1 : ¬ s.size = 0 := fun e => hq3 (size0.2 e)
   exact rt hf rfl rfl ⟨bQ (by unfold Tr.snd; simp [z0, z1]), hX.low⟩
 ·
  refine nf hf hq2 fun a hf => ?_
  refine go hf ?_
  intro a hf
  have z0 := hq2
  exact rt hf rfl rfl ⟨bQ (by unfold Tr.snd; simp [z0]), hX.low⟩
theorem snd_K2 {n0 : Nat} (hn : SndC n0) (n : Int) (s : ByteArray) (lt dt : Tr) (hsz0 : (Tr.mk 2 n s lt dt).sz ≤ n0 + 1) (w : World) (F : Nat → Prop) (cs : List Value) (hU : U8 w) (hv0 : VAt w F (Tr.mk 2 n s lt dt) cs) : Calls Tryz.prog 33 #[.agg cs.toArray] w fun e w' => e = .returned (.bool (Tr.mk 2 n s lt dt).snd) ∧ Below w.heap.size w w' := by
 have hv := hv0.low
 obtain ⟨la, lc, da, dc, rfl, wk, wn, ws, hL, hD⟩ := hv.parts
 obtain ⟨_, _, e1, hlL, hl1, hl2, _⟩ := id hL
 obtain ⟨_, _, rfl⟩ := Value.slice.inj e1
 obtain ⟨_, _, e2, hdF, hd1, hd2, _⟩ := id hD
 obtain ⟨_, _, rfl⟩ := Value.slice.inj e2
 have hlm : lt.len ≤ 9223372036854775807 := by unfold maxLen at hl2; omega
 have hdm : dt.len ≤ 9223372036854775807 := by unfold maxLen at hd2; omega
 simp only [Tr.sz] at hsz0
 refine cv1 Tryz.func33 rfl rfl rfl fun a hf => ?_
 have hX := Bx.start w
 refine gc hf ?_
 intro a hf
 refine sv_box hf hX rfl dd (fun a C1 W hC hf hX hA => ?_)
 have h1C1 := Nat.lt_of_lt_of_eq hU.2 hC.symm
 replace hU := hU.below hA
 clear hC hA
 refine go hf ?_
 intro a hf
 rcases Decidable.em (n = 0) with hq2 | hq2
 ·
  refine nt hf hq2 fun a hf => ?_
  refine go hf ?_
  intro a hf
  rcases Decidable.em (s = ⟨#[]⟩) with hq3 | hq3
  ·
   refine sv_run (v := .bool false) hf dd (fun a hf => ex_cmps hf rfl u9 rfl rfl (.inr ⟨rfl, by rw [decide_eq_true hq3]; rfl⟩)) (fun a hf => ?_)
   refine go hf ?_
   intro a hf
   refine sv_len hf rfl u26 dd (fun a hf => ?_)
   refine go hf ?_
   intro a hf
   rcases Decidable.em (0 < ((lt.len : Nat) : Int)) with hq4 | hq4
   ·
    refine ct hf hq4 fun a hf => ?_
    refine go hf ?_
    intro a hf
    have z0 := hq2
    have z1 : s.size = 0 := size0.1 hq3
    have z2 : ¬ lt.lst = [] := lst_ne hq4
    exact rt hf rfl rfl ⟨bQ (by unfold Tr.snd; simp [z0, z1, z2]), hX.low⟩
   ·
    refine cf hf hq4 fun a hf => ?_
    refine go hf ?_
    intro a hf
    refine sv_len hf rfl u27 dd (fun a hf => ?_)
    refine go hf ?_
    intro a hf
    rcases Decidable.em (0 < ((dt.len : Nat) : Int)) with hq5 | hq5
    ·
     refine ct hf hq5 fun a hf => ?_
     refine go hf ?_
     intro a hf
     have z0 := hq2
     have z1 : s.size = 0 := size0.1 hq3
     have z2 : lt.lst = [] := lst_eq hq4
     have z3 : ¬ dt.lst = [] := lst_ne hq5
     exact rt hf rfl rfl ⟨bQ (by unfold Tr.snd; simp [z0, z1, z2, z3]), hX.low⟩
    ·
     refine cf hf hq5 fun a hf => ?_
     refine go hf ?_
     intro a hf
     refine wp_block ?_
     refine gc hf ?_
     intro a hf
     have z0 := hq2
     have z1 : s.size = 0 := size0.1 hq3
     have z2 : lt.lst = [] := lst_eq hq4
     have z3 : dt.lst = [] := lst_eq hq5
     exact rt hf rfl rfl ⟨bQ (by unfold Tr.snd; simp [z0, z1, z2, z3]), hX.low⟩
  ·
   refine sv_run (v := .bool true) hf dd (fun a hf => ex_cmps hf rfl u9 rfl rfl (.inr ⟨rfl, by rw [decide_eq_false hq3]; rfl⟩)) (fun a hf => ?_)
   refine go hf ?_
   intro a hf
   have z0 := hq2
   have z1 : ¬ s.size = 0 := fun e => hq3 (size0.2 e)
   exact rt hf rfl rfl ⟨bQ (by unfold Tr.snd; simp [z0, z1]), hX.low⟩
 ·
  refine nf hf hq2 fun a hf => ?_
  refine go hf ?_
  intro a hf
  have z0 := hq2
  exact rt hf rfl rfl ⟨bQ (by unfold Tr.snd; simp [z0]), hX.low⟩
theorem snd_K3 {n0 : Nat} (hn : SndC n0) (n : Int) (s : ByteArray) (lt dt : Tr) (hsz0 : (Tr.mk 3 n s lt dt).sz ≤ n0 + 1) (w : World) (F : Nat → Prop) (cs : List Value) (hU : U8 w) (hv0 : VAt w F (Tr.mk 3 n s lt dt) cs) : Calls Tryz.prog 33 #[.agg cs.toArray] w fun e w' => e = .returned (.bool (Tr.mk 3 n s lt dt).snd) ∧ Below w.heap.size w w' := by
 have hv := hv0.low
 obtain ⟨la, lc, da, dc, rfl, wk, wn, ws, hL, hD⟩ := hv.parts
 obtain ⟨_, _, e1, hlL, hl1, hl2, _⟩ := id hL
 obtain ⟨_, _, rfl⟩ := Value.slice.inj e1
 obtain ⟨_, _, e2, hdF, hd1, hd2, _⟩ := id hD
 obtain ⟨_, _, rfl⟩ := Value.slice.inj e2
 have hlm : lt.len ≤ 9223372036854775807 := by unfold maxLen at hl2; omega
 have hdm : dt.len ≤ 9223372036854775807 := by unfold maxLen at hd2; omega
 simp only [Tr.sz] at hsz0
 refine cv1 Tryz.func33 rfl rfl rfl fun a hf => ?_
 have hX := Bx.start w
 refine gc hf ?_
 intro a hf
 refine sv_box hf hX rfl dd (fun a C1 W hC hf hX hA => ?_)
 have h1C1 := Nat.lt_of_lt_of_eq hU.2 hC.symm
 replace hU := hU.below hA
 clear hC hA
 refine go hf ?_
 intro a hf
 rcases Decidable.em (s = ⟨#[]⟩) with hq2 | hq2
 ·
  refine sv_run (v := .bool false) hf dd (fun a hf => ex_cmps hf rfl u9 rfl rfl (.inr ⟨rfl, by rw [decide_eq_true hq2]; rfl⟩)) (fun a hf => ?_)
  refine go hf ?_
  intro a hf
  refine sv_len hf rfl u26 dd (fun a hf => ?_)
  refine go hf ?_
  intro a hf
  rcases Decidable.em (0 < ((lt.len : Nat) : Int)) with hq3 | hq3
  ·
   refine ct hf hq3 fun a hf => ?_
   refine go hf ?_
   intro a hf
   have z0 : s.size = 0 := size0.1 hq2
   have z1 : ¬ lt.lst = [] := lst_ne hq3
   exact rt hf rfl rfl ⟨bQ (by unfold Tr.snd; simp [z0, z1]), hX.low⟩
  ·
   refine cf hf hq3 fun a hf => ?_
   refine go hf ?_
   intro a hf
   refine sv_len hf rfl u27 dd (fun a hf => ?_)
   refine go hf ?_
   intro a hf
   rcases Decidable.em (0 < ((dt.len : Nat) : Int)) with hq4 | hq4
   ·
    refine ct hf hq4 fun a hf => ?_
    refine go hf ?_
    intro a hf
    have z0 : s.size = 0 := size0.1 hq2
    have z1 : lt.lst = [] := lst_eq hq3
    have z2 : ¬ dt.lst = [] := lst_ne hq4
    exact rt hf rfl rfl ⟨bQ (by unfold Tr.snd; simp [z0, z1, z2]), hX.low⟩
   ·
    refine cf hf hq4 fun a hf => ?_
    refine go hf ?_
    intro a hf
    refine wp_block ?_
    refine gc hf ?_
    intro a hf
    have z0 : s.size = 0 := size0.1 hq2
    have z1 : lt.lst = [] := lst_eq hq3
    have z2 : dt.lst = [] := lst_eq hq4
    exact rt hf rfl rfl ⟨bQ (by unfold Tr.snd; simp [z0, z1, z2]), hX.low⟩
 ·
  refine sv_run (v := .bool true) hf dd (fun a hf => ex_cmps hf rfl u9 rfl rfl (.inr ⟨rfl, by rw [decide_eq_false hq2]; rfl⟩)) (fun a hf => ?_)
  refine go hf ?_
  intro a hf
  have z0 : ¬ s.size = 0 := fun e => hq2 (size0.2 e)
  exact rt hf rfl rfl ⟨bQ (by unfold Tr.snd; simp [z0]), hX.low⟩
theorem snd_K4 {n0 : Nat} (hn : SndC n0) (n : Int) (s : ByteArray) (lt dt : Tr) (hsz0 : (Tr.mk 4 n s lt dt).sz ≤ n0 + 1) (w : World) (F : Nat → Prop) (cs : List Value) (hU : U8 w) (hv0 : VAt w F (Tr.mk 4 n s lt dt) cs) : Calls Tryz.prog 33 #[.agg cs.toArray] w fun e w' => e = .returned (.bool (Tr.mk 4 n s lt dt).snd) ∧ Below w.heap.size w w' := by
 have hv := hv0.low
 obtain ⟨la, lc, da, dc, rfl, wk, wn, ws, hL, hD⟩ := hv.parts
 obtain ⟨_, _, e1, hlL, hl1, hl2, _⟩ := id hL
 obtain ⟨_, _, rfl⟩ := Value.slice.inj e1
 obtain ⟨_, _, e2, hdF, hd1, hd2, _⟩ := id hD
 obtain ⟨_, _, rfl⟩ := Value.slice.inj e2
 have hlm : lt.len ≤ 9223372036854775807 := by unfold maxLen at hl2; omega
 have hdm : dt.len ≤ 9223372036854775807 := by unfold maxLen at hd2; omega
 simp only [Tr.sz] at hsz0
 refine cv1 Tryz.func33 rfl rfl rfl fun a hf => ?_
 have hX := Bx.start w
 refine gc hf ?_
 intro a hf
 refine sv_box hf hX rfl dd (fun a C1 W hC hf hX hA => ?_)
 have h1C1 := Nat.lt_of_lt_of_eq hU.2 hC.symm
 replace hU := hU.below hA
 clear hC hA
 refine go hf ?_
 intro a hf
 rcases Decidable.em (n = 0) with hq2 | hq2
 ·
  refine nt hf hq2 fun a hf => ?_
  refine go hf ?_
  intro a hf
  refine sv_len hf rfl u26 dd (fun a hf => ?_)
  refine go hf ?_
  intro a hf
  rcases Decidable.em (0 < ((lt.len : Nat) : Int)) with hq3 | hq3
  ·
   refine ct hf hq3 fun a hf => ?_
   refine go hf ?_
   intro a hf
   have z0 := hq2
   have z1 : ¬ lt.lst = [] := lst_ne hq3
   exact rt hf rfl rfl ⟨bQ (by unfold Tr.snd; simp [z0, z1]), hX.low⟩
  ·
   refine cf hf hq3 fun a hf => ?_
   refine go hf ?_
   intro a hf
   refine sv_len hf rfl u27 dd (fun a hf => ?_)
   refine go hf ?_
   intro a hf
   rcases Decidable.em (0 < ((dt.len : Nat) : Int)) with hq4 | hq4
   ·
    refine ct hf hq4 fun a hf => ?_
    refine go hf ?_
    intro a hf
    have z0 := hq2
    have z1 : lt.lst = [] := lst_eq hq3
    have z2 : ¬ dt.lst = [] := lst_ne hq4
    exact rt hf rfl rfl ⟨bQ (by unfold Tr.snd; simp [z0, z1, z2]), hX.low⟩
   ·
    refine cf hf hq4 fun a hf => ?_
    refine go hf ?_
    intro a hf
    refine wp_block ?_
    refine gc hf ?_
    intro a hf
    refine sv_lens hf rfl u9 dd (fun a hf => ?_)
    rcases Decidable.em (((s).size : Int) ≤ 4096) with hq5 | hq5
    ·
     refine ct hf hq5 fun a hf => ?_
     refine go hf ?_
     intro a hf
     obtain ⟨bv, hbv⟩ : ∃ b, b = Lib.validD s.data.toList := ⟨_, rfl⟩
     have hcc := utf_any s W hU ws
     rw [← hbv] at hcc
     refine sv_call hf fnOK_58 rfl (hcc) dd ?_
     rintro e W ⟨rfl, hb⟩
     replace hX := hX.keep hb
     replace hU := hU.below hb
     clear hb hcc
     refine ⟨_, rfl, fun a hf => ?_⟩
     refine go hf ?_
     intro a hf
     have z0 := hq2
     have z1 : lt.lst = [] := lst_eq hq3
     have z2 : dt.lst = [] := lst_eq hq4
     have z3 : s.size ≤ 4096 := by omega
     exact rt hf rfl rfl ⟨bQ (by unfold Tr.snd; simp [z0, z1, z2, z3]; exact hbv), hX.low⟩
    ·
     refine cf hf hq5 fun a hf => ?_
     refine go hf ?_
     intro a hf
     have z0 := hq2
     have z1 : lt.lst = [] := lst_eq hq3
     have z2 : dt.lst = [] := lst_eq hq4
     have z3 : ¬ s.size ≤ 4096 := by omega
     exact rt hf rfl rfl ⟨bQ (by unfold Tr.snd; simp [z0, z1, z2, z3]), hX.low⟩
 ·
  refine nf hf hq2 fun a hf => ?_
  refine go hf ?_
  intro a hf
  have z0 := hq2
  exact rt hf rfl rfl ⟨bQ (by unfold Tr.snd; simp [z0]), hX.low⟩
theorem snd_K5 {n0 : Nat} (hn : SndC n0) (n : Int) (s : ByteArray) (lt dt : Tr) (hsz0 : (Tr.mk 5 n s lt dt).sz ≤ n0 + 1) (w : World) (F : Nat → Prop) (cs : List Value) (hU : U8 w) (hv0 : VAt w F (Tr.mk 5 n s lt dt) cs) : Calls Tryz.prog 33 #[.agg cs.toArray] w fun e w' => e = .returned (.bool (Tr.mk 5 n s lt dt).snd) ∧ Below w.heap.size w w' := by
 have hv := hv0.low
 obtain ⟨la, lc, da, dc, rfl, wk, wn, ws, hL, hD⟩ := hv.parts
 obtain ⟨_, _, e1, hlL, hl1, hl2, _⟩ := id hL
 obtain ⟨_, _, rfl⟩ := Value.slice.inj e1
 obtain ⟨_, _, e2, hdF, hd1, hd2, _⟩ := id hD
 obtain ⟨_, _, rfl⟩ := Value.slice.inj e2
 have hlm : lt.len ≤ 9223372036854775807 := by unfold maxLen at hl2; omega
 have hdm : dt.len ≤ 9223372036854775807 := by unfold maxLen at hd2; omega
 simp only [Tr.sz] at hsz0
 refine cv1 Tryz.func33 rfl rfl rfl fun a hf => ?_
 have hX := Bx.start w
 refine gc hf ?_
 intro a hf
 refine sv_box hf hX rfl dd (fun a C1 W hC hf hX hA => ?_)
 have h1C1 := Nat.lt_of_lt_of_eq hU.2 hC.symm
 replace hU := hU.below hA
 clear hC hA
 refine go hf ?_
 intro a hf
 rcases Decidable.em (n = 0) with hq2 | hq2
 ·
  refine nt hf hq2 fun a hf => ?_
  refine go hf ?_
  intro a hf
  rcases Decidable.em (s = ⟨#[]⟩) with hq3 | hq3
  ·
   refine sv_run (v := .bool false) hf dd (fun a hf => ex_cmps hf rfl u9 rfl rfl (.inr ⟨rfl, by rw [decide_eq_true hq3]; rfl⟩)) (fun a hf => ?_)
   refine go hf ?_
   intro a hf
   refine sv_len hf rfl u26 dd (fun a hf => ?_)
   refine go hf ?_
   intro a hf
   rcases Decidable.em (0 < ((lt.len : Nat) : Int)) with hq4 | hq4
   ·
    refine ct hf hq4 fun a hf => ?_
    refine go hf ?_
    intro a hf
    have z0 := hq2
    have z1 : s.size = 0 := size0.1 hq3
    have z2 : ¬ lt.lst = [] := lst_ne hq4
    exact rt hf rfl rfl ⟨bQ (by unfold Tr.snd; simp [z0, z1, z2]), hX.low⟩
   ·
    refine cf hf hq4 fun a hf => ?_
    refine go hf ?_
    intro a hf
    refine wp_block ?_
    refine gc hf ?_
    intro a hf
    obtain ⟨bf, hbf⟩ : ∃ b, b = (dt.snd && Tr.nmsOK [] dt.nms) := ⟨_, rfl⟩
    have hcc := sndF_of hn dt (fun p hp => by have := Tr.sz_lst dt p hp; omega) W (LowF w) (.slice da dt.len dc) hU (hD.kept hX.low.size (fun k hk _ => hX.low.block k hk) (fun _ h _ => h))
    rw [← hbf] at hcc
    refine sv_call hf fnOK_59 rfl (hcc) dd ?_
    rintro e W ⟨rfl, hb⟩
    replace hX := hX.keep hb
    replace hU := hU.below hb
    clear hb hcc
    refine ⟨_, rfl, fun a hf => ?_⟩
    refine go hf ?_
    intro a hf
    have z0 := hq2
    have z1 : s.size = 0 := size0.1 hq3
    have z2 : lt.lst = [] := lst_eq hq4
    exact rt hf rfl rfl ⟨bQ (by unfold Tr.snd; simp [z0, z1, z2]; exact hbf), hX.low⟩
  ·
   refine sv_run (v := .bool true) hf dd (fun a hf => ex_cmps hf rfl u9 rfl rfl (.inr ⟨rfl, by rw [decide_eq_false hq3]; rfl⟩)) (fun a hf => ?_)
   refine go hf ?_
   intro a hf
   have z0 := hq2
   have z1 : ¬ s.size = 0 := fun e => hq3 (size0.2 e)
   exact rt hf rfl rfl ⟨bQ (by unfold Tr.snd; simp [z0, z1]), hX.low⟩
 ·
  refine nf hf hq2 fun a hf => ?_
  refine go hf ?_
  intro a hf
  have z0 := hq2
  exact rt hf rfl rfl ⟨bQ (by unfold Tr.snd; simp [z0]), hX.low⟩
theorem snd_K6 {n0 : Nat} (hn : SndC n0) (n : Int) (s : ByteArray) (lt dt : Tr) (hsz0 : (Tr.mk 6 n s lt dt).sz ≤ n0 + 1) (w : World) (F : Nat → Prop) (cs : List Value) (hU : U8 w) (hv0 : VAt w F (Tr.mk 6 n s lt dt) cs) : Calls Tryz.prog 33 #[.agg cs.toArray] w fun e w' => e = .returned (.bool (Tr.mk 6 n s lt dt).snd) ∧ Below w.heap.size w w' := by
 have hv := hv0.low
 obtain ⟨la, lc, da, dc, rfl, wk, wn, ws, hL, hD⟩ := hv.parts
 obtain ⟨_, _, e1, hlL, hl1, hl2, _⟩ := id hL
 obtain ⟨_, _, rfl⟩ := Value.slice.inj e1
 obtain ⟨_, _, e2, hdF, hd1, hd2, _⟩ := id hD
 obtain ⟨_, _, rfl⟩ := Value.slice.inj e2
 have hlm : lt.len ≤ 9223372036854775807 := by unfold maxLen at hl2; omega
 have hdm : dt.len ≤ 9223372036854775807 := by unfold maxLen at hd2; omega
 simp only [Tr.sz] at hsz0
 refine cv1 Tryz.func33 rfl rfl rfl fun a hf => ?_
 have hX := Bx.start w
 refine gc hf ?_
 intro a hf
 refine sv_box hf hX rfl dd (fun a C1 W hC hf hX hA => ?_)
 have h1C1 := Nat.lt_of_lt_of_eq hU.2 hC.symm
 replace hU := hU.below hA
 clear hC hA
 refine go hf ?_
 intro a hf
 rcases Decidable.em (n = 0) with hq2 | hq2
 ·
  refine nt hf hq2 fun a hf => ?_
  refine go hf ?_
  intro a hf
  rcases Decidable.em (s = ⟨#[]⟩) with hq3 | hq3
  ·
   refine sv_run (v := .bool false) hf dd (fun a hf => ex_cmps hf rfl u9 rfl rfl (.inr ⟨rfl, by rw [decide_eq_true hq3]; rfl⟩)) (fun a hf => ?_)
   refine go hf ?_
   intro a hf
   refine sv_len hf rfl u27 dd (fun a hf => ?_)
   refine go hf ?_
   intro a hf
   rcases Decidable.em (0 < ((dt.len : Nat) : Int)) with hq4 | hq4
   ·
    refine ct hf hq4 fun a hf => ?_
    refine go hf ?_
    intro a hf
    have z0 := hq2
    have z1 : s.size = 0 := size0.1 hq3
    have z2 : ¬ dt.lst = [] := lst_ne hq4
    exact rt hf rfl rfl ⟨bQ (by unfold Tr.snd; simp [z0, z1, z2, snd_lst lt (.inl hlL)]), hX.low⟩
   ·
    refine cf hf hq4 fun a hf => ?_
    refine go hf ?_
    intro a hf
    refine wp_block ?_
    refine gc hf ?_
    intro a hf
    refine sv_len hf rfl u26 dd (fun a hf => ?_)
    refine go hf ?_
    intro a hf
    refine wp_block (wp_loop (fun a X => ∃ (q : Nat), FrV 132 [(117, .slice la lt.len lc), (118, .int .i64 ((lt.len : Nat) : Int)), (119, .int .i64 (q : Int))] a ∧ Bx ⟨w, []⟩ [(C1, [.int .i64 6, .int .i64 n, .string s, .slice la lt.len lc, .slice da dt.len dc])] X ∧ q ≤ lt.len ∧ U8 X ∧ (lt.lst.take q).all Tr.snd = true) (fun a _ => lt.len - (intOf (a.eval (.tmp 119))).toNat) ⟨0, hf.sub (sub_cons rfl (sub_cons rfl (sub_cons rfl (sub_nil)))), hX, Nat.zero_le _, hU, rfl⟩ ?_)
    clear hf hX hU
    rintro a W ⟨q, hf, hX, hq, hU, hal⟩
    have hm119 : a.eval (.tmp 119) = .int .i64 (q : Int) := hf.rel 119 _ rfl
    rcases Decidable.em ((q : Int) < ((lt.len : Nat) : Int)) with hgo | hgo
    ·
     refine gc hf ?_
     intro a hf
     refine ct hf hgo fun a hf => ?_
     refine go hf ?_
     intro a hf
     refine wp_block ?_
     have hq2 : q < lt.len := by omega
     obtain ⟨LB, LO, _, p, ps, hsl, hFB, hLB, hpq, hps, hr, hvp⟩ := hL.get hq2
     obtain ⟨rfl, _, _⟩ := Value.slice.inj hsl
     have hones := hvp.ones
     refine gc hf ?_
     intro a hf
     refine sv_idx (k := 5) (q := q) hf rfl rfl (by omega) u26 einfo_vals dd (fun a hf => ?_)
     refine sv_lrr (cs := ps) hf rfl (rep_row_mono hr (hX.low.block LB hLB)) u29 (by show _ = some (ps.length); rw [hps]; exact info_val) dd (fun a hf => ?_)
     refine sv_alloc (zs := [.int .i64 0, .int .i64 0, .string ⟨#[]⟩, .slice none 0 0, .slice none 0 0]) hf hX zero_val dd (fun a C5 W hC hf hX hA => ?_)
     have h1C5 := Nat.lt_of_lt_of_eq hU.2 hC.symm
     replace hU := hU.below hA
     clear hC hA
     refine sv_sr hf hX rfl rfl 0 rfl (by show ps.length = _; rw [hps]; rfl) (by show _ = some (ps.length); rw [hps]; exact info_val) hones [(C5, ps), (C1, [.int .i64 6, .int .i64 n, .string s, .slice (some ⟨LB, LO, none⟩) lt.len lc, .slice da dt.len dc])] rfl (fun W hX hO => ?_)
     replace hU := hU.kept (Nat.le_of_eq hO.size.symm) (hO.heap 0 (fun e => by omega)) (hO.heap 1 (fun e => by omega))
     clear hO
     refine go hf ?_
     intro a hf
     refine sv_lr hf hX rfl 0 rfl u29 (by rw [hps]; exact info_val) dd (fun a hf => ?_)
     obtain ⟨bs, hbs⟩ : ∃ b, b = p.snd := ⟨_, rfl⟩
     have hcc := hn p (by have := Tr.sz_lst lt p (List.mem_of_getElem? hpq); omega) W (LowF w) ps hU (hvp.kept hX.low.size (fun k hk _ => hX.low.block k hk) (fun _ h _ => h))
     rw [← hbs] at hcc
     refine sv_call hf fnOK_33 rfl (hcc) dd ?_
     rintro e W ⟨rfl, hb⟩
     replace hX := hX.keep hb
     replace hU := hU.below hb
     clear hb hcc
     refine ⟨_, rfl, fun a hf => ?_⟩
     cases bs
     ·
      refine go hf ?_
      intro a hf
      have z0 := hq2
      have z1 : s.size = 0 := size0.1 hq3
      have z2 : dt.lst = [] := lst_eq hq4
      have z3 := all_no hpq hbs.symm
      exact rt hf rfl rfl ⟨bQ (by unfold Tr.snd; simp [z0, z1, z2, z3, snd_lst lt (.inl hlL)]), hX.low⟩
     ·
      refine go hf ?_
      intro a hf
      refine sv_add ((q + 1 : Nat) : Int) hf rfl rfl (by rw [wrap_in (by omega)]; rfl) dd (fun a hf => ?_)
      refine go hf ?_
      intro a hf
      refine ⟨⟨q + 1, hf.sub (sub_cons rfl (sub_cons rfl (sub_cons rfl (sub_nil)))), hX.sub, by omega, hU, all_step hal hpq hbs.symm⟩, ?_⟩
      have h5 : a.eval (.tmp 119) = .int .i64 ((q + 1 : Nat) : Int) := hf.rel 119 _ rfl
      rw [h5, hm119]; simp only [intOf, Int.toNat_natCast]; omega
    ·
     refine gc hf ?_
     intro a hf
     refine cf hf hgo fun a hf => ?_
     refine go hf ?_
     intro a hf
     refine wp_exit ?_
     simp only [Exit.inBlock, Exit.then, ↓reduceIte]
     have hqe : q = lt.len := by omega
     rw [hqe, List.take_length] at hal
     refine gc hf ?_
     intro a hf
     have z0 := hq2
     have z1 : s.size = 0 := size0.1 hq3
     have z2 : dt.lst = [] := lst_eq hq4
     exact rt hf rfl rfl ⟨bQ (by unfold Tr.snd; simp [z0, z1, z2, snd_lst lt (.inl hlL), hal]), hX.low⟩
  ·
   refine sv_run (v := .bool true) hf dd (fun a hf => ex_cmps hf rfl u9 rfl rfl (.inr ⟨rfl, by rw [decide_eq_false hq3]; rfl⟩)) (fun a hf => ?_)
   refine go hf ?_
   intro a hf
   have z0 := hq2
   have z1 : ¬ s.size = 0 := fun e => hq3 (size0.2 e)
   exact rt hf rfl rfl ⟨bQ (by unfold Tr.snd; simp [z0, z1, snd_lst lt (.inl hlL)]), hX.low⟩
 ·
  refine nf hf hq2 fun a hf => ?_
  refine go hf ?_
  intro a hf
  have z0 := hq2
  exact rt hf rfl rfl ⟨bQ (by unfold Tr.snd; simp [z0, snd_lst lt (.inl hlL)]), hX.low⟩
theorem snd_K7 {n0 : Nat} (hn : SndC n0) (n : Int) (s : ByteArray) (lt dt : Tr) (hsz0 : (Tr.mk 7 n s lt dt).sz ≤ n0 + 1) (w : World) (F : Nat → Prop) (cs : List Value) (hU : U8 w) (hv0 : VAt w F (Tr.mk 7 n s lt dt) cs) : Calls Tryz.prog 33 #[.agg cs.toArray] w fun e w' => e = .returned (.bool (Tr.mk 7 n s lt dt).snd) ∧ Below w.heap.size w w' := by
 have hv := hv0.low
 obtain ⟨la, lc, da, dc, rfl, wk, wn, ws, hL, hD⟩ := hv.parts
 obtain ⟨_, _, e1, hlL, hl1, hl2, _⟩ := id hL
 obtain ⟨_, _, rfl⟩ := Value.slice.inj e1
 obtain ⟨_, _, e2, hdF, hd1, hd2, _⟩ := id hD
 obtain ⟨_, _, rfl⟩ := Value.slice.inj e2
 have hlm : lt.len ≤ 9223372036854775807 := by unfold maxLen at hl2; omega
 have hdm : dt.len ≤ 9223372036854775807 := by unfold maxLen at hd2; omega
 simp only [Tr.sz] at hsz0
 refine cv1 Tryz.func33 rfl rfl rfl fun a hf => ?_
 have hX := Bx.start w
 refine gc hf ?_
 intro a hf
 refine sv_box hf hX rfl dd (fun a C1 W hC hf hX hA => ?_)
 have h1C1 := Nat.lt_of_lt_of_eq hU.2 hC.symm
 replace hU := hU.below hA
 clear hC hA
 refine go hf ?_
 intro a hf
 rcases Decidable.em (n = 0) with hq2 | hq2
 ·
  refine nt hf hq2 fun a hf => ?_
  refine go hf ?_
  intro a hf
  refine sv_len hf rfl u26 dd (fun a hf => ?_)
  refine go hf ?_
  intro a hf
  rcases Decidable.em (0 < ((lt.len : Nat) : Int)) with hq3 | hq3
  ·
   refine ct hf hq3 fun a hf => ?_
   refine go hf ?_
   intro a hf
   have z0 := hq2
   have z1 : ¬ lt.lst = [] := lst_ne hq3
   exact rt hf rfl rfl ⟨bQ (by unfold Tr.snd; simp [z0, z1]), hX.low⟩
  ·
   refine cf hf hq3 fun a hf => ?_
   refine go hf ?_
   intro a hf
   refine sv_len hf rfl u27 dd (fun a hf => ?_)
   refine go hf ?_
   intro a hf
   rcases Decidable.em (0 < ((dt.len : Nat) : Int)) with hq4 | hq4
   ·
    refine ct hf hq4 fun a hf => ?_
    refine go hf ?_
    intro a hf
    have z0 := hq2
    have z1 : lt.lst = [] := lst_eq hq3
    have z2 : ¬ dt.lst = [] := lst_ne hq4
    exact rt hf rfl rfl ⟨bQ (by unfold Tr.snd; simp [z0, z1, z2]), hX.low⟩
   ·
    refine cf hf hq4 fun a hf => ?_
    refine go hf ?_
    intro a hf
    refine wp_block ?_
    refine gc hf ?_
    intro a hf
    refine sv_lens hf rfl u9 dd (fun a hf => ?_)
    rcases Decidable.em (((s).size : Int) ≤ 4096) with hq5 | hq5
    ·
     refine ct hf hq5 fun a hf => ?_
     refine go hf ?_
     intro a hf
     have z0 := hq2
     have z1 : lt.lst = [] := lst_eq hq3
     have z2 : dt.lst = [] := lst_eq hq4
     have z3 : s.size ≤ 4096 := by omega
     exact rt hf rfl rfl ⟨bQ (by unfold Tr.snd; simp [z0, z1, z2, z3]), hX.low⟩
    ·
     refine cf hf hq5 fun a hf => ?_
     refine go hf ?_
     intro a hf
     have z0 := hq2
     have z1 : lt.lst = [] := lst_eq hq3
     have z2 : dt.lst = [] := lst_eq hq4
     have z3 : ¬ s.size ≤ 4096 := by omega
     exact rt hf rfl rfl ⟨bQ (by unfold Tr.snd; simp [z0, z1, z2, z3]), hX.low⟩
 ·
  refine nf hf hq2 fun a hf => ?_
  refine go hf ?_
  intro a hf
  have z0 := hq2
  exact rt hf rfl rfl ⟨bQ (by unfold Tr.snd; simp [z0]), hX.low⟩
theorem snd_K8 {n0 : Nat} (hn : SndC n0) (n : Int) (s : ByteArray) (lt dt : Tr) (hsz0 : (Tr.mk 8 n s lt dt).sz ≤ n0 + 1) (w : World) (F : Nat → Prop) (cs : List Value) (hU : U8 w) (hv0 : VAt w F (Tr.mk 8 n s lt dt) cs) : Calls Tryz.prog 33 #[.agg cs.toArray] w fun e w' => e = .returned (.bool (Tr.mk 8 n s lt dt).snd) ∧ Below w.heap.size w w' := by
 have hv := hv0.low
 obtain ⟨la, lc, da, dc, rfl, wk, wn, ws, hL, hD⟩ := hv.parts
 obtain ⟨_, _, e1, hlL, hl1, hl2, _⟩ := id hL
 obtain ⟨_, _, rfl⟩ := Value.slice.inj e1
 obtain ⟨_, _, e2, hdF, hd1, hd2, _⟩ := id hD
 obtain ⟨_, _, rfl⟩ := Value.slice.inj e2
 have hlm : lt.len ≤ 9223372036854775807 := by unfold maxLen at hl2; omega
 have hdm : dt.len ≤ 9223372036854775807 := by unfold maxLen at hd2; omega
 simp only [Tr.sz] at hsz0
 refine cv1 Tryz.func33 rfl rfl rfl fun a hf => ?_
 have hX := Bx.start w
 refine gc hf ?_
 intro a hf
 refine sv_box hf hX rfl dd (fun a C1 W hC hf hX hA => ?_)
 have h1C1 := Nat.lt_of_lt_of_eq hU.2 hC.symm
 replace hU := hU.below hA
 clear hC hA
 refine go hf ?_
 intro a hf
 rcases Decidable.em (n = 0) with hq2 | hq2
 ·
  refine nt hf hq2 fun a hf => ?_
  refine go hf ?_
  intro a hf
  refine sv_len hf rfl u26 dd (fun a hf => ?_)
  refine go hf ?_
  intro a hf
  rcases Decidable.em (0 < ((lt.len : Nat) : Int)) with hq3 | hq3
  ·
   refine ct hf hq3 fun a hf => ?_
   refine go hf ?_
   intro a hf
   have z0 := hq2
   have z1 : ¬ lt.lst = [] := lst_ne hq3
   exact rt hf rfl rfl ⟨bQ (by unfold Tr.snd; simp [z0, z1]), hX.low⟩
  ·
   refine cf hf hq3 fun a hf => ?_
   refine go hf ?_
   intro a hf
   refine sv_len hf rfl u27 dd (fun a hf => ?_)
   refine go hf ?_
   intro a hf
   rcases Decidable.em (0 < ((dt.len : Nat) : Int)) with hq4 | hq4
   ·
    refine ct hf hq4 fun a hf => ?_
    refine go hf ?_
    intro a hf
    have z0 := hq2
    have z1 : lt.lst = [] := lst_eq hq3
    have z2 : ¬ dt.lst = [] := lst_ne hq4
    exact rt hf rfl rfl ⟨bQ (by unfold Tr.snd; simp [z0, z1, z2]), hX.low⟩
   ·
    refine cf hf hq4 fun a hf => ?_
    refine go hf ?_
    intro a hf
    refine wp_block ?_
    refine gc hf ?_
    intro a hf
    refine sv_lens hf rfl u9 dd (fun a hf => ?_)
    rcases Decidable.em (((s).size : Int) = 12) with hq5 | hq5
    ·
     refine ct hf hq5 fun a hf => ?_
     refine go hf ?_
     intro a hf
     have z0 := hq2
     have z1 : lt.lst = [] := lst_eq hq3
     have z2 : dt.lst = [] := lst_eq hq4
     have z3 : s.size = 12 := by omega
     exact rt hf rfl rfl ⟨bQ (by unfold Tr.snd; simp [z0, z1, z2, z3]), hX.low⟩
    ·
     refine cf hf hq5 fun a hf => ?_
     refine go hf ?_
     intro a hf
     have z0 := hq2
     have z1 : lt.lst = [] := lst_eq hq3
     have z2 : dt.lst = [] := lst_eq hq4
     have z3 : ¬ s.size = 12 := by omega
     exact rt hf rfl rfl ⟨bQ (by unfold Tr.snd; simp [z0, z1, z2, z3]), hX.low⟩
 ·
  refine nf hf hq2 fun a hf => ?_
  refine go hf ?_
  intro a hf
  have z0 := hq2
  exact rt hf rfl rfl ⟨bQ (by unfold Tr.snd; simp [z0]), hX.low⟩
theorem snd_K9 {n0 : Nat} (hn : SndC n0) (n : Int) (s : ByteArray) (lt dt : Tr) (hsz0 : (Tr.mk 9 n s lt dt).sz ≤ n0 + 1) (w : World) (F : Nat → Prop) (cs : List Value) (hU : U8 w) (hv0 : VAt w F (Tr.mk 9 n s lt dt) cs) : Calls Tryz.prog 33 #[.agg cs.toArray] w fun e w' => e = .returned (.bool (Tr.mk 9 n s lt dt).snd) ∧ Below w.heap.size w w' := by
 have hv := hv0.low
 obtain ⟨la, lc, da, dc, rfl, wk, wn, ws, hL, hD⟩ := hv.parts
 obtain ⟨_, _, e1, hlL, hl1, hl2, _⟩ := id hL
 obtain ⟨_, _, rfl⟩ := Value.slice.inj e1
 obtain ⟨_, _, e2, hdF, hd1, hd2, _⟩ := id hD
 obtain ⟨_, _, rfl⟩ := Value.slice.inj e2
 have hlm : lt.len ≤ 9223372036854775807 := by unfold maxLen at hl2; omega
 have hdm : dt.len ≤ 9223372036854775807 := by unfold maxLen at hd2; omega
 simp only [Tr.sz] at hsz0
 refine cv1 Tryz.func33 rfl rfl rfl fun a hf => ?_
 have hX := Bx.start w
 refine gc hf ?_
 intro a hf
 refine sv_box hf hX rfl dd (fun a C1 W hC hf hX hA => ?_)
 have h1C1 := Nat.lt_of_lt_of_eq hU.2 hC.symm
 replace hU := hU.below hA
 clear hC hA
 refine go hf ?_
 intro a hf
 rcases Decidable.em (s = ⟨#[]⟩) with hq2 | hq2
 ·
  refine sv_run (v := .bool false) hf dd (fun a hf => ex_cmps hf rfl u9 rfl rfl (.inr ⟨rfl, by rw [decide_eq_true hq2]; rfl⟩)) (fun a hf => ?_)
  refine go hf ?_
  intro a hf
  refine sv_len hf rfl u26 dd (fun a hf => ?_)
  refine go hf ?_
  intro a hf
  rcases Decidable.em (0 < ((lt.len : Nat) : Int)) with hq3 | hq3
  ·
   refine ct hf hq3 fun a hf => ?_
   refine go hf ?_
   intro a hf
   have z0 : s.size = 0 := size0.1 hq2
   have z1 : ¬ lt.lst = [] := lst_ne hq3
   exact rt hf rfl rfl ⟨bQ (by unfold Tr.snd; simp [z0, z1]), hX.low⟩
  ·
   refine cf hf hq3 fun a hf => ?_
   refine go hf ?_
   intro a hf
   refine sv_len hf rfl u27 dd (fun a hf => ?_)
   refine go hf ?_
   intro a hf
   rcases Decidable.em (0 < ((dt.len : Nat) : Int)) with hq4 | hq4
   ·
    refine ct hf hq4 fun a hf => ?_
    refine go hf ?_
    intro a hf
    have z0 : s.size = 0 := size0.1 hq2
    have z1 : lt.lst = [] := lst_eq hq3
    have z2 : ¬ dt.lst = [] := lst_ne hq4
    exact rt hf rfl rfl ⟨bQ (by unfold Tr.snd; simp [z0, z1, z2]), hX.low⟩
   ·
    refine cf hf hq4 fun a hf => ?_
    refine go hf ?_
    intro a hf
    refine wp_block ?_
    refine gc hf ?_
    intro a hf
    rcases Decidable.em (n = 0) with hq5 | hq5
    ·
     refine ct hf hq5 fun a hf => ?_
     refine go hf ?_
     intro a hf
     have z0 : s.size = 0 := size0.1 hq2
     have z1 : lt.lst = [] := lst_eq hq3
     have z2 : dt.lst = [] := lst_eq hq4
     have z3 := hq5
     exact rt hf rfl rfl ⟨bQ (by unfold Tr.snd; simp [z0, z1, z2, z3]), hX.low⟩
    ·
     refine cf hf hq5 fun a hf => ?_
     refine go hf ?_
     intro a hf
     rcases Decidable.em (n = 1) with hq6 | hq6
     ·
      refine ct hf hq6 fun a hf => ?_
      refine go hf ?_
      intro a hf
      have z0 : s.size = 0 := size0.1 hq2
      have z1 : lt.lst = [] := lst_eq hq3
      have z2 : dt.lst = [] := lst_eq hq4
      have z3 := hq5
      have z4 := hq6
      exact rt hf rfl rfl ⟨bQ (by unfold Tr.snd; simp [z0, z1, z2, z3, z4]), hX.low⟩
     ·
      refine cf hf hq6 fun a hf => ?_
      refine go hf ?_
      intro a hf
      have z0 : s.size = 0 := size0.1 hq2
      have z1 : lt.lst = [] := lst_eq hq3
      have z2 : dt.lst = [] := lst_eq hq4
      have z3 := hq5
      have z4 := hq6
      exact rt hf rfl rfl ⟨bQ (by unfold Tr.snd; simp [z0, z1, z2, z3, z4]), hX.low⟩
 ·
  refine sv_run (v := .bool true) hf dd (fun a hf => ex_cmps hf rfl u9 rfl rfl (.inr ⟨rfl, by rw [decide_eq_false hq2]; rfl⟩)) (fun a hf => ?_)
  refine go hf ?_
  intro a hf
  have z0 : ¬ s.size = 0 := fun e => hq2 (size0.2 e)
  exact rt hf rfl rfl ⟨bQ (by unfold Tr.snd; simp [z0]), hX.low⟩
theorem snd_K10 {n0 : Nat} (hn : SndC n0) (n : Int) (s : ByteArray) (lt dt : Tr) (hsz0 : (Tr.mk 10 n s lt dt).sz ≤ n0 + 1) (w : World) (F : Nat → Prop) (cs : List Value) (hU : U8 w) (hv0 : VAt w F (Tr.mk 10 n s lt dt) cs) : Calls Tryz.prog 33 #[.agg cs.toArray] w fun e w' => e = .returned (.bool (Tr.mk 10 n s lt dt).snd) ∧ Below w.heap.size w w' := by
 have hv := hv0.low
 obtain ⟨la, lc, da, dc, rfl, wk, wn, ws, hL, hD⟩ := hv.parts
 obtain ⟨_, _, e1, hlL, hl1, hl2, _⟩ := id hL
 obtain ⟨_, _, rfl⟩ := Value.slice.inj e1
 obtain ⟨_, _, e2, hdF, hd1, hd2, _⟩ := id hD
 obtain ⟨_, _, rfl⟩ := Value.slice.inj e2
 have hlm : lt.len ≤ 9223372036854775807 := by unfold maxLen at hl2; omega
 have hdm : dt.len ≤ 9223372036854775807 := by unfold maxLen at hd2; omega
 simp only [Tr.sz] at hsz0
 refine cv1 Tryz.func33 rfl rfl rfl fun a hf => ?_
 have hX := Bx.start w
 refine gc hf ?_
 intro a hf
 refine sv_box hf hX rfl dd (fun a C1 W hC hf hX hA => ?_)
 have h1C1 := Nat.lt_of_lt_of_eq hU.2 hC.symm
 replace hU := hU.below hA
 clear hC hA
 refine go hf ?_
 intro a hf
 rcases Decidable.em (s = ⟨#[]⟩) with hq2 | hq2
 ·
  refine sv_run (v := .bool false) hf dd (fun a hf => ex_cmps hf rfl u9 rfl rfl (.inr ⟨rfl, by rw [decide_eq_true hq2]; rfl⟩)) (fun a hf => ?_)
  refine go hf ?_
  intro a hf
  refine sv_len hf rfl u26 dd (fun a hf => ?_)
  refine go hf ?_
  intro a hf
  rcases Decidable.em (0 < ((lt.len : Nat) : Int)) with hq3 | hq3
  ·
   refine ct hf hq3 fun a hf => ?_
   refine go hf ?_
   intro a hf
   have z0 : s.size = 0 := size0.1 hq2
   have z1 : ¬ lt.lst = [] := lst_ne hq3
   exact rt hf rfl rfl ⟨bQ (by unfold Tr.snd; simp [z0, z1]), hX.low⟩
  ·
   refine cf hf hq3 fun a hf => ?_
   refine go hf ?_
   intro a hf
   refine sv_len hf rfl u27 dd (fun a hf => ?_)
   refine go hf ?_
   intro a hf
   rcases Decidable.em (0 < ((dt.len : Nat) : Int)) with hq4 | hq4
   ·
    refine ct hf hq4 fun a hf => ?_
    refine go hf ?_
    intro a hf
    have z0 : s.size = 0 := size0.1 hq2
    have z1 : lt.lst = [] := lst_eq hq3
    have z2 : ¬ dt.lst = [] := lst_ne hq4
    exact rt hf rfl rfl ⟨bQ (by unfold Tr.snd; simp [z0, z1, z2]), hX.low⟩
   ·
    refine cf hf hq4 fun a hf => ?_
    refine go hf ?_
    intro a hf
    refine wp_block ?_
    refine gc hf ?_
    intro a hf
    rcases Decidable.em (0 ≤ n) with hq5 | hq5
    ·
     refine ct hf hq5 fun a hf => ?_
     refine go hf ?_
     intro a hf
     have z0 : s.size = 0 := size0.1 hq2
     have z1 : lt.lst = [] := lst_eq hq3
     have z2 : dt.lst = [] := lst_eq hq4
     have z3 := hq5
     exact rt hf rfl rfl ⟨bQ (by unfold Tr.snd; simp [z0, z1, z2, z3]), hX.low⟩
    ·
     refine cf hf hq5 fun a hf => ?_
     refine go hf ?_
     intro a hf
     have z0 : s.size = 0 := size0.1 hq2
     have z1 : lt.lst = [] := lst_eq hq3
     have z2 : dt.lst = [] := lst_eq hq4
     have z3 := hq5
     exact rt hf rfl rfl ⟨bQ (by unfold Tr.snd; simp [z0, z1, z2, z3]), hX.low⟩
 ·
  refine sv_run (v := .bool true) hf dd (fun a hf => ex_cmps hf rfl u9 rfl rfl (.inr ⟨rfl, by rw [decide_eq_false hq2]; rfl⟩)) (fun a hf => ?_)
  refine go hf ?_
  intro a hf
  have z0 : ¬ s.size = 0 := fun e => hq2 (size0.2 e)
  exact rt hf rfl rfl ⟨bQ (by unfold Tr.snd; simp [z0]), hX.low⟩
theorem snd_K11 {n0 : Nat} (hn : SndC n0) (n : Int) (s : ByteArray) (lt dt : Tr) (hsz0 : (Tr.mk 11 n s lt dt).sz ≤ n0 + 1) (w : World) (F : Nat → Prop) (cs : List Value) (hU : U8 w) (hv0 : VAt w F (Tr.mk 11 n s lt dt) cs) : Calls Tryz.prog 33 #[.agg cs.toArray] w fun e w' => e = .returned (.bool (Tr.mk 11 n s lt dt).snd) ∧ Below w.heap.size w w' := by
 have hv := hv0.low
 obtain ⟨la, lc, da, dc, rfl, wk, wn, ws, hL, hD⟩ := hv.parts
 obtain ⟨_, _, e1, hlL, hl1, hl2, _⟩ := id hL
 obtain ⟨_, _, rfl⟩ := Value.slice.inj e1
 obtain ⟨_, _, e2, hdF, hd1, hd2, _⟩ := id hD
 obtain ⟨_, _, rfl⟩ := Value.slice.inj e2
 have hlm : lt.len ≤ 9223372036854775807 := by unfold maxLen at hl2; omega
 have hdm : dt.len ≤ 9223372036854775807 := by unfold maxLen at hd2; omega
 simp only [Tr.sz] at hsz0
 refine cv1 Tryz.func33 rfl rfl rfl fun a hf => ?_
 have hX := Bx.start w
 refine gc hf ?_
 intro a hf
 refine sv_box hf hX rfl dd (fun a C1 W hC hf hX hA => ?_)
 have h1C1 := Nat.lt_of_lt_of_eq hU.2 hC.symm
 replace hU := hU.below hA
 clear hC hA
 refine go hf ?_
 intro a hf
 rcases Decidable.em (n = 0) with hq2 | hq2
 ·
  refine nt hf hq2 fun a hf => ?_
  refine go hf ?_
  intro a hf
  rcases Decidable.em (s = ⟨#[]⟩) with hq3 | hq3
  ·
   refine sv_run (v := .bool false) hf dd (fun a hf => ex_cmps hf rfl u9 rfl rfl (.inr ⟨rfl, by rw [decide_eq_true hq3]; rfl⟩)) (fun a hf => ?_)
   refine go hf ?_
   intro a hf
   refine sv_len hf rfl u26 dd (fun a hf => ?_)
   refine go hf ?_
   intro a hf
   rcases Decidable.em (0 < ((lt.len : Nat) : Int)) with hq4 | hq4
   ·
    refine ct hf hq4 fun a hf => ?_
    refine go hf ?_
    intro a hf
    have z0 := hq2
    have z1 : s.size = 0 := size0.1 hq3
    have z2 : ¬ lt.lst = [] := lst_ne hq4
    exact rt hf rfl rfl ⟨bQ (by unfold Tr.snd; simp [z0, z1, z2]), hX.low⟩
   ·
    refine cf hf hq4 fun a hf => ?_
    refine go hf ?_
    intro a hf
    refine sv_len hf rfl u27 dd (fun a hf => ?_)
    refine go hf ?_
    intro a hf
    rcases Decidable.em (0 < ((dt.len : Nat) : Int)) with hq5 | hq5
    ·
     refine ct hf hq5 fun a hf => ?_
     refine go hf ?_
     intro a hf
     have z0 := hq2
     have z1 : s.size = 0 := size0.1 hq3
     have z2 : lt.lst = [] := lst_eq hq4
     have z3 : ¬ dt.lst = [] := lst_ne hq5
     exact rt hf rfl rfl ⟨bQ (by unfold Tr.snd; simp [z0, z1, z2, z3]), hX.low⟩
    ·
     refine cf hf hq5 fun a hf => ?_
     refine go hf ?_
     intro a hf
     refine wp_block ?_
     refine gc hf ?_
     intro a hf
     have z0 := hq2
     have z1 : s.size = 0 := size0.1 hq3
     have z2 : lt.lst = [] := lst_eq hq4
     have z3 : dt.lst = [] := lst_eq hq5
     exact rt hf rfl rfl ⟨bQ (by unfold Tr.snd; simp [z0, z1, z2, z3]), hX.low⟩
  ·
   refine sv_run (v := .bool true) hf dd (fun a hf => ex_cmps hf rfl u9 rfl rfl (.inr ⟨rfl, by rw [decide_eq_false hq3]; rfl⟩)) (fun a hf => ?_)
   refine go hf ?_
   intro a hf
   have z0 := hq2
   have z1 : ¬ s.size = 0 := fun e => hq3 (size0.2 e)
   exact rt hf rfl rfl ⟨bQ (by unfold Tr.snd; simp [z0, z1]), hX.low⟩
 ·
  refine nf hf hq2 fun a hf => ?_
  refine go hf ?_
  intro a hf
  have z0 := hq2
  exact rt hf rfl rfl ⟨bQ (by unfold Tr.snd; simp [z0]), hX.low⟩
theorem snd_Kk {n0 : Nat} (hn : SndC n0) (k : Int) (hk : k ≠ 1 ∧ k ≠ 2 ∧ k ≠ 3 ∧ k ≠ 4 ∧ k ≠ 5 ∧ k ≠ 6 ∧ k ≠ 7 ∧ k ≠ 8 ∧ k ≠ 9 ∧ k ≠ 10 ∧ k ≠ 11) (n : Int) (s : ByteArray) (lt dt : Tr) (hsz0 : (Tr.mk k n s lt dt).sz ≤ n0 + 1) (w : World) (F : Nat → Prop) (cs : List Value) (hU : U8 w) (hv0 : VAt w F (Tr.mk k n s lt dt) cs) : Calls Tryz.prog 33 #[.agg cs.toArray] w fun e w' => e = .returned (.bool (Tr.mk k n s lt dt).snd) ∧ Below w.heap.size w w' := by
 have hv := hv0.low
 obtain ⟨la, lc, da, dc, rfl, wk, wn, ws, hL, hD⟩ := hv.parts
 obtain ⟨_, _, e1, hlL, hl1, hl2, _⟩ := id hL
 obtain ⟨_, _, rfl⟩ := Value.slice.inj e1
 obtain ⟨_, _, e2, hdF, hd1, hd2, _⟩ := id hD
 obtain ⟨_, _, rfl⟩ := Value.slice.inj e2
 have hlm : lt.len ≤ 9223372036854775807 := by unfold maxLen at hl2; omega
 have hdm : dt.len ≤ 9223372036854775807 := by unfold maxLen at hd2; omega
 simp only [Tr.sz] at hsz0
 refine cv1 Tryz.func33 rfl rfl rfl fun a hf => ?_
 have hX := Bx.start w
 refine gc hf ?_
 intro a hf
 refine sv_box hf hX rfl dd (fun a C1 W hC hf hX hA => ?_)
 have h1C1 := Nat.lt_of_lt_of_eq hU.2 hC.symm
 replace hU := hU.below hA
 clear hC hA
 refine go hf ?_
 intro a hf
 refine sv_cmp hf rfl rfl false (congrArg some (decide_eq_false hk.2.2.1)) dd (fun a hf => ?_)
 refine go hf ?_
 intro a hf
 refine sv_cmp hf rfl rfl false (congrArg some (decide_eq_false hk.2.2.2.2.2.2.2.2.1)) dd (fun a hf => ?_)
 refine go hf ?_
 intro a hf
 refine sv_cmp hf rfl rfl false (congrArg some (decide_eq_false hk.2.2.2.2.2.2.2.2.2.1)) dd (fun a hf => ?_)
 refine go hf ?_
 intro a hf
 refine sv_cmp hf rfl rfl false (congrArg some (decide_eq_false hk.2.2.2.1)) dd (fun a hf => ?_)
 refine go hf ?_
 intro a hf
 refine sv_cmp hf rfl rfl false (congrArg some (decide_eq_false hk.2.2.2.2.2.2.1)) dd (fun a hf => ?_)
 refine go hf ?_
 intro a hf
 refine sv_cmp hf rfl rfl false (congrArg some (decide_eq_false hk.2.2.2.2.2.2.2.1)) dd (fun a hf => ?_)
 refine go hf ?_
 intro a hf
 rcases Decidable.em (n = 0) with hq2 | hq2
 ·
  refine nt hf hq2 fun a hf => ?_
  refine go hf ?_
  intro a hf
  rcases Decidable.em (s = ⟨#[]⟩) with hq3 | hq3
  ·
   refine sv_run (v := .bool false) hf dd (fun a hf => ex_cmps hf rfl u9 rfl rfl (.inr ⟨rfl, by rw [decide_eq_true hq3]; rfl⟩)) (fun a hf => ?_)
   refine go hf ?_
   intro a hf
   refine sv_cmp hf rfl rfl true (congrArg some (by rw [decide_eq_false hk.2.2.2.2.2.1]; rfl)) dd (fun a hf => ?_)
   refine go hf ?_
   intro a hf
   refine sv_len hf rfl u26 dd (fun a hf => ?_)
   refine go hf ?_
   intro a hf
   rcases Decidable.em (0 < ((lt.len : Nat) : Int)) with hq4 | hq4
   ·
    refine ct hf hq4 fun a hf => ?_
    refine go hf ?_
    intro a hf
    have z0 := hq2
    have z1 : s.size = 0 := size0.1 hq3
    have z2 : ¬ lt.lst = [] := lst_ne hq4
    obtain ⟨y1, y2, y3, y4, y5, y6, y7, y8, y9, y10, y11⟩ := hk
    exact rt hf rfl rfl ⟨bQ (by unfold Tr.snd; simp [z0, z1, z2, y1, y2, y3, y4, y5, y6, y7, y8, y9, y10, y11]), hX.low⟩
   ·
    refine cf hf hq4 fun a hf => ?_
    refine go hf ?_
    intro a hf
    refine sv_cmp hf rfl rfl true (congrArg some (by rw [decide_eq_false hk.2.2.2.2.1]; rfl)) dd (fun a hf => ?_)
    refine go hf ?_
    intro a hf
    refine sv_len hf rfl u27 dd (fun a hf => ?_)
    refine go hf ?_
    intro a hf
    rcases Decidable.em (0 < ((dt.len : Nat) : Int)) with hq5 | hq5
    ·
     refine ct hf hq5 fun a hf => ?_
     refine go hf ?_
     intro a hf
     have z0 := hq2
     have z1 : s.size = 0 := size0.1 hq3
     have z2 : lt.lst = [] := lst_eq hq4
     have z3 : ¬ dt.lst = [] := lst_ne hq5
     obtain ⟨y1, y2, y3, y4, y5, y6, y7, y8, y9, y10, y11⟩ := hk
     exact rt hf rfl rfl ⟨bQ (by unfold Tr.snd; simp [z0, z1, z2, z3, y1, y2, y3, y4, y5, y6, y7, y8, y9, y10, y11]), hX.low⟩
    ·
     refine cf hf hq5 fun a hf => ?_
     refine go hf ?_
     intro a hf
     refine wp_block ?_
     refine gc hf ?_
     intro a hf
     refine sv_cmp hf rfl rfl false (congrArg some (decide_eq_false hk.1)) dd (fun a hf => ?_)
     refine go hf ?_
     intro a hf
     refine sv_cmp hf rfl rfl false (congrArg some (decide_eq_false hk.2.1)) dd (fun a hf => ?_)
     refine go hf ?_
     intro a hf
     refine sv_cmp hf rfl rfl false (congrArg some (decide_eq_false hk.2.2.2.2.2.2.2.2.2.2)) dd (fun a hf => ?_)
     refine go hf ?_
     intro a hf
     refine sv_cmp hf rfl rfl false (congrArg some (decide_eq_false hk.2.2.1)) dd (fun a hf => ?_)
     refine go hf ?_
     intro a hf
     refine sv_cmp hf rfl rfl false (congrArg some (decide_eq_false hk.2.2.2.2.2.2.2.2.1)) dd (fun a hf => ?_)
     refine go hf ?_
     intro a hf
     refine sv_cmp hf rfl rfl false (congrArg some (decide_eq_false hk.2.2.2.2.2.2.2.2.2.1)) dd (fun a hf => ?_)
     refine go hf ?_
     intro a hf
     refine sv_cmp hf rfl rfl false (congrArg some (decide_eq_false hk.2.2.2.1)) dd (fun a hf => ?_)
     refine go hf ?_
     intro a hf
     refine sv_cmp hf rfl rfl false (congrArg some (decide_eq_false hk.2.2.2.2.2.2.1)) dd (fun a hf => ?_)
     refine go hf ?_
     intro a hf
     refine sv_cmp hf rfl rfl false (congrArg some (decide_eq_false hk.2.2.2.2.2.2.2.1)) dd (fun a hf => ?_)
     refine go hf ?_
     intro a hf
     refine sv_cmp hf rfl rfl false (congrArg some (decide_eq_false hk.2.2.2.2.2.1)) dd (fun a hf => ?_)
     refine go hf ?_
     intro a hf
     refine sv_cmp hf rfl rfl false (congrArg some (decide_eq_false hk.2.2.2.2.1)) dd (fun a hf => ?_)
     refine go hf ?_
     intro a hf
     have z0 := hq2
     have z1 : s.size = 0 := size0.1 hq3
     have z2 : lt.lst = [] := lst_eq hq4
     have z3 : dt.lst = [] := lst_eq hq5
     obtain ⟨y1, y2, y3, y4, y5, y6, y7, y8, y9, y10, y11⟩ := hk
     exact rt hf rfl rfl ⟨bQ (by unfold Tr.snd; simp [z0, z1, z2, z3, y1, y2, y3, y4, y5, y6, y7, y8, y9, y10, y11]), hX.low⟩
  ·
   refine sv_run (v := .bool true) hf dd (fun a hf => ex_cmps hf rfl u9 rfl rfl (.inr ⟨rfl, by rw [decide_eq_false hq3]; rfl⟩)) (fun a hf => ?_)
   refine go hf ?_
   intro a hf
   have z0 := hq2
   have z1 : ¬ s.size = 0 := fun e => hq3 (size0.2 e)
   obtain ⟨y1, y2, y3, y4, y5, y6, y7, y8, y9, y10, y11⟩ := hk
   exact rt hf rfl rfl ⟨bQ (by unfold Tr.snd; simp [z0, z1, y1, y2, y3, y4, y5, y6, y7, y8, y9, y10, y11]), hX.low⟩
 ·
  refine nf hf hq2 fun a hf => ?_
  refine go hf ?_
  intro a hf
  have z0 := hq2
  obtain ⟨y1, y2, y3, y4, y5, y6, y7, y8, y9, y10, y11⟩ := hk
  exact rt hf rfl rfl ⟨bQ (by unfold Tr.snd; simp [z0, y1, y2, y3, y4, y5, y6, y7, y8, y9, y10, y11]), hX.low⟩
theorem sndC_all : ∀ n, SndC n
 | 0, t, ht, _, _, _, _, hv => by obtain ⟨k, m, s, l, d, rfl⟩ := hv.isV; simp only [Tr.sz] at ht; omega
 | n + 1, t, ht, w, F, cs, hU, hv => by
  have hn := sndC_all n
  obtain ⟨k, m, s, l, d, rfl⟩ := hv.isV
  by_cases h1 : k = 1
  ·subst h1; exact snd_K1 hn m s l d ht w F cs hU hv
  by_cases h2 : k = 2
  ·subst h2; exact snd_K2 hn m s l d ht w F cs hU hv
  by_cases h3 : k = 3
  ·subst h3; exact snd_K3 hn m s l d ht w F cs hU hv
  by_cases h4 : k = 4
  ·subst h4; exact snd_K4 hn m s l d ht w F cs hU hv
  by_cases h5 : k = 5
  ·subst h5; exact snd_K5 hn m s l d ht w F cs hU hv
  by_cases h6 : k = 6
  ·subst h6; exact snd_K6 hn m s l d ht w F cs hU hv
  by_cases h7 : k = 7
  ·subst h7; exact snd_K7 hn m s l d ht w F cs hU hv
  by_cases h8 : k = 8
  ·subst h8; exact snd_K8 hn m s l d ht w F cs hU hv
  by_cases h9 : k = 9
  ·subst h9; exact snd_K9 hn m s l d ht w F cs hU hv
  by_cases h10 : k = 10
  ·subst h10; exact snd_K10 hn m s l d ht w F cs hU hv
  by_cases h11 : k = 11
  ·subst h11; exact snd_K11 hn m s l d ht w F cs hU hv
  exact snd_Kk hn k ⟨h1, h2, h3, h4, h5, h6, h7, h8, h9, h10, h11⟩ m s l d ht w F cs hU hv
theorem Nodes_any (t : Tr) (w : World) (F : Nat → Prop) (cs : List Value) (hv0 : VAt w F t cs) : Calls Tryz.prog 31 #[.agg cs.toArray] w fun e w' => e = .returned (.int .i64 (min ((t.nod : Nat) : Int) 1025)) ∧ Below w.heap.size w w' := by
 have hv := hv0.low
 have hps := hv.len
 refine cv1 Tryz.func31 rfl rfl rfl fun a hf => ?_
 have hX := Bx.start w
 refine gc hf ?_
 intro a hf
 refine sv_box hf hX rfl dd (fun a C1 W hC hf hX hA => ?_)
 clear hC hA
 refine go hf ?_
 intro a hf
 refine sv_lr (cs := cs) hf hX rfl 0 rfl u29 (by rw [hps]; exact info_val) dd (fun a hf => ?_)
 refine sv_call hf fnOK_56 rfl (nodC_all t.sz t (Nat.le_refl _) W (LowF w) cs 1025 (hv.kept hX.low.size (fun k hk _ => hX.low.block k hk) (fun _ h _ => h)) dd dd) dd ?_
 rintro e W ⟨rfl, hb⟩
 replace hX := hX.keep hb
 clear hb
 refine ⟨_, rfl, fun a hf => ?_⟩
 refine go hf ?_
 intro a hf
 exact rt hf rfl rfl ⟨rfl, hX.low⟩
theorem Depth_any (t : Tr) (w : World) (F : Nat → Prop) (cs : List Value) (hv0 : VAt w F t cs) : Calls Tryz.prog 32 #[.agg cs.toArray] w fun e w' => e = .returned (.int .i64 (min ((t.dep : Nat) : Int) 17)) ∧ Below w.heap.size w w' := by
 have hv := hv0.low
 have hps := hv.len
 refine cv1 Tryz.func32 rfl rfl rfl fun a hf => ?_
 have hX := Bx.start w
 refine gc hf ?_
 intro a hf
 refine sv_box hf hX rfl dd (fun a C1 W hC hf hX hA => ?_)
 clear hC hA
 refine go hf ?_
 intro a hf
 refine sv_lr (cs := cs) hf hX rfl 0 rfl u29 (by rw [hps]; exact info_val) dd (fun a hf => ?_)
 refine sv_call hf fnOK_57 rfl (depC_all t.sz t (Nat.le_refl _) W (LowF w) cs 17 (hv.kept hX.low.size (fun k hk _ => hX.low.block k hk) (fun _ h _ => h)) dd dd) dd ?_
 rintro e W ⟨rfl, hb⟩
 replace hX := hX.keep hb
 clear hb
 refine ⟨_, rfl, fun a hf => ?_⟩
 refine go hf ?_
 intro a hf
 exact rt hf rfl rfl ⟨rfl, hX.low⟩
theorem dvn_h {a : Int} (h : min a 1025 ≤ 1024) : a ≤ 1024 := by simp only [Int.min_def] at h; split at h <;> omega
theorem dvd_h {a : Int} (h : min a 17 ≤ 16) : a ≤ 16 := by simp only [Int.min_def] at h; split at h <;> omega
theorem dvn {t : Tr} (h : min ((t.nod : Nat) : Int) 1025 ≤ 1024) : decide (t.nod ≤ 1024) = true := decide_eq_true (by have := dvn_h h; omega)
theorem dvd {t : Tr} (h : min ((t.dep : Nat) : Int) 17 ≤ 16) : decide (t.dep ≤ 16) = true := decide_eq_true (by have := dvd_h h; omega)
theorem dvn_f {t : Tr} (h : ¬ min ((t.nod : Nat) : Int) 1025 ≤ 1024) : decide (t.nod ≤ 1024) = false := decide_eq_false (fun h2 => h (by rw [Int.min_eq_left (by omega)]; omega))
theorem dvd_f {t : Tr} (h : ¬ min ((t.dep : Nat) : Int) 17 ≤ 16) : decide (t.dep ≤ 16) = false := decide_eq_false (fun h2 => h (by rw [Int.min_eq_left (by omega)]; omega))
theorem Valid_any (t : Tr) (w : World) (F : Nat → Prop) (cs : List Value) (hU : U8 w) (hv0 : VAt w F t cs) : Calls Tryz.prog 17 #[.agg cs.toArray] w fun e w' => e = .returned (.bool t.valid) ∧ Below w.heap.size w w' := by
 have hv := hv0.low
 have hps := hv.len
 refine cv1 Tryz.func17 rfl rfl rfl fun a hf => ?_
 have hX := Bx.start w
 refine gc hf ?_
 intro a hf
 refine sv_box hf hX rfl dd (fun a C1 W hC hf hX hA => ?_)
 replace hU := hU.below hA
 clear hC hA
 refine go hf ?_
 intro a hf
 refine sv_lr (cs := cs) hf hX rfl 0 rfl u29 (by rw [hps]; exact info_val) dd (fun a hf => ?_)
 refine sv_call hf fnOK_31 rfl (Nodes_any t W (LowF w) cs (hv.kept hX.low.size (fun k hk _ => hX.low.block k hk) (fun _ h _ => h))) dd ?_
 rintro e W ⟨rfl, hb⟩
 replace hX := hX.keep hb
 replace hU := hU.below hb
 clear hb
 refine ⟨_, rfl, fun a hf => ?_⟩
 rcases Decidable.em (min ((t.nod : Nat) : Int) 1025 ≤ 1024) with hq2 | hq2
 ·
  refine ct hf hq2 fun a hf => ?_
  refine go hf ?_
  intro a hf
  refine sv_lr (cs := cs) hf hX rfl 0 rfl u29 (by rw [hps]; exact info_val) dd (fun a hf => ?_)
  refine go hf ?_
  intro a hf
  refine sv_call hf fnOK_32 rfl (Depth_any t W (LowF w) cs (hv.kept hX.low.size (fun k hk _ => hX.low.block k hk) (fun _ h _ => h))) dd ?_
  rintro e W ⟨rfl, hb⟩
  replace hX := hX.keep hb
  replace hU := hU.below hb
  clear hb
  refine ⟨_, rfl, fun a hf => ?_⟩
  refine go hf ?_
  intro a hf
  rcases Decidable.em (min ((t.dep : Nat) : Int) 17 ≤ 16) with hq3 | hq3
  ·
   refine ct hf hq3 fun a hf => ?_
   refine go hf ?_
   intro a hf
   refine sv_lr (cs := cs) hf hX rfl 0 rfl u29 (by rw [hps]; exact info_val) dd (fun a hf => ?_)
   refine go hf ?_
   intro a hf
   obtain ⟨bs, hbs⟩ : ∃ b, b = t.snd := ⟨_, rfl⟩
   have hcc := sndC_all t.sz t (Nat.le_refl _) W (LowF w) cs hU (hv.kept hX.low.size (fun k hk _ => hX.low.block k hk) (fun _ h _ => h))
   rw [← hbs] at hcc
   refine sv_call hf fnOK_33 rfl (hcc) dd ?_
   rintro e W ⟨rfl, hb⟩
   replace hX := hX.keep hb
   clear hb hcc
   refine ⟨_, rfl, fun a hf => ?_⟩
   refine go hf ?_
   intro a hf
   exact rt hf rfl rfl ⟨bQ (by unfold Tr.valid; rw [dvn hq2, dvd hq3, ← hbs]; rfl), hX.low⟩
  ·
   refine cf hf hq3 fun a hf => ?_
   refine go hf ?_
   intro a hf
   exact rt hf rfl rfl ⟨bQ (by unfold Tr.valid; rw [dvn hq2, dvd_f hq3]; rfl), hX.low⟩
 ·
  refine cf hf hq2 fun a hf => ?_
  refine go hf ?_
  intro a hf
  exact rt hf rfl rfl ⟨bQ (by unfold Tr.valid; rw [dvn_f hq2]; rfl), hX.low⟩
theorem len_nil {t : Tr} (h : ((t.len : Nat) : Int) = 0) : t.lst = [] := List.eq_nil_of_length_eq_zero (show t.len = 0 by omega)
theorem len_nn {t : Tr} (h : ¬ ((t.len : Nat) : Int) = 0) : ¬ t.lst = [] := fun e => by
 have h1 : t.len = 0 := by show t.lst.length = 0; rw [e]; rfl
 rw [h1] at h
 exact h rfl
theorem allowed_any (t : Tr) (w : World) (F : Nat → Prop) (cs : List Value) (hU : U8 w) (hv0 : VAt w F t cs) : Calls Tryz.prog 15 #[.agg cs.toArray] w fun e w' => e = .returned (.bool t.allowed) ∧ Below w.heap.size w w' := by
 have hv := hv0.low
 obtain ⟨k, n, s, lt, dt, rfl⟩ := hv.isV
 obtain ⟨la, lc, da, dc, rfl, wk, wn, ws, hL, hD⟩ := hv.parts
 obtain ⟨tv, htv⟩ : ∃ b, b = (Tr.mk k n s lt dt).valid := ⟨_, rfl⟩
 refine cv1 Tryz.func15 rfl rfl rfl fun a hf => ?_
 have hX := Bx.start w
 refine gc hf ?_
 intro a hf
 refine sv_box hf hX rfl dd (fun a C1 W hC hf hX hA => ?_)
 clear hC hA
 refine go hf ?_
 intro a hf
 rcases Decidable.em (k = 0) with hq2 | hq2
 ·
  refine ct hf hq2 fun a hf => ?_
  refine go hf ?_
  intro a hf
  rcases Decidable.em (n = 0) with hq3 | hq3
  ·
   refine ct hf hq3 fun a hf => ?_
   refine go hf ?_
   intro a hf
   rcases Decidable.em (s = ⟨#[]⟩) with hq4 | hq4
   ·
    refine sv_run (v := .bool true) hf dd (fun a hf => ex_cmps hf rfl u9 rfl rfl (.inl ⟨rfl, (decide_eq_true hq4).symm⟩)) (fun a hf => ?_)
    refine go hf ?_
    intro a hf
    refine sv_len hf rfl u26 dd (fun a hf => ?_)
    refine go hf ?_
    intro a hf
    rcases Decidable.em (((lt.len : Nat) : Int) = 0) with hq5 | hq5
    ·
     refine ct hf hq5 fun a hf => ?_
     refine go hf ?_
     intro a hf
     refine sv_len hf rfl u27 dd (fun a hf => ?_)
     refine go hf ?_
     intro a hf
     rcases Decidable.em (((dt.len : Nat) : Int) = 0) with hq6 | hq6
     ·
      refine ct hf hq6 fun a hf => ?_
      refine go hf ?_
      intro a hf
      have z0 := hq2
      have z1 := hq3
      have z2 : s.size = 0 := size0.1 hq4
      have z3 : lt.lst = [] := len_nil hq5
      have z4 : dt.lst = [] := len_nil hq6
      exact rt hf rfl rfl ⟨bQ (by unfold Tr.allowed; simp [z0, z1, z2, z3, z4]), hX.low⟩
     ·
      refine cf hf hq6 fun a hf => ?_
      refine go hf ?_
      intro a hf
      have z0 := hq2
      have z1 := hq3
      have z2 : s.size = 0 := size0.1 hq4
      have z3 : lt.lst = [] := len_nil hq5
      have z4 : ¬ dt.lst = [] := len_nn hq6
      exact rt hf rfl rfl ⟨bQ (by unfold Tr.allowed; simp [z0, z1, z2, z3, z4]), hX.low⟩
    ·
     refine cf hf hq5 fun a hf => ?_
     refine go hf ?_
     intro a hf
     have z0 := hq2
     have z1 := hq3
     have z2 : s.size = 0 := size0.1 hq4
     have z3 : ¬ lt.lst = [] := len_nn hq5
     exact rt hf rfl rfl ⟨bQ (by unfold Tr.allowed; simp [z0, z1, z2, z3]), hX.low⟩
   ·
    refine sv_run (v := .bool false) hf dd (fun a hf => ex_cmps hf rfl u9 rfl rfl (.inl ⟨rfl, (decide_eq_false hq4).symm⟩)) (fun a hf => ?_)
    refine go hf ?_
    intro a hf
    have z0 := hq2
    have z1 := hq3
    have z2 : ¬ s.size = 0 := fun e => hq4 (size0.2 e)
    exact rt hf rfl rfl ⟨bQ (by unfold Tr.allowed; simp [z0, z1, z2]), hX.low⟩
  ·
   refine cf hf hq3 fun a hf => ?_
   refine go hf ?_
   intro a hf
   have z0 := hq2
   have z1 := hq3
   exact rt hf rfl rfl ⟨bQ (by unfold Tr.allowed; simp [z0, z1]), hX.low⟩
 ·
  refine cf hf hq2 fun a hf => ?_
  refine go hf ?_
  intro a hf
  refine sv_lr hf hX rfl 0 rfl u29 info_val dd (fun a hf => ?_)
  have hcc := Valid_any _ W (LowF w) _ (hU.below hX.low) (hv.kept hX.low.size (fun k hk _ => hX.low.block k hk) (fun _ h _ => h))
  rw [← htv] at hcc
  refine sv_call hf fnOK_17 rfl (hcc) dd ?_
  rintro e W ⟨rfl, hb⟩
  replace hX := hX.keep hb
  clear hb hcc
  refine ⟨_, rfl, fun a hf => ?_⟩
  refine go hf ?_
  intro a hf
  have z0 := hq2
  exact rt hf rfl rfl ⟨bQ (by unfold Tr.allowed; simp [z0]; exact htv), hX.low⟩
theorem cmp_mk (k n k' n' : Int) (s s' : ByteArray) (l d l' d' : Tr) : (Tr.mk k n s l d).cmp (Tr.mk k' n' s' l' d') = if k ≠ k' then Lib.compareInt k k' else if Tr.kI k then Lib.compareInt n n' else if Tr.kT k then Lib.compareBytes s.data.toList s'.data.toList else if k = 6 then l.cmp l' else if k = 5 then d.cmp d' else 0 := rfl
theorem compareInt_pos {a b : Int} (h : b < a) : Lib.compareInt a b = 1 := by unfold Lib.compareInt; rw [if_neg (by omega), if_pos h]
theorem compareInt_neg {a b : Int} (h : a < b) : Lib.compareInt a b = -1 := by unfold Lib.compareInt; rw [if_pos h]
theorem cmpL_at : ∀ (l l' : Tr) (q : Nat) (p p' : Tr), l.isL = true → l'.isL = true → (∀ i, i < q → ∀ x y, l.lst[i]? = some x → l'.lst[i]? = some y → x.cmp y = 0) → l.lst[q]? = some p → l'.lst[q]? = some p' → ¬ p.cmp p' = 0 → l.cmp l' = p.cmp p'
 | .nil, _, _, _, _, _, _, _, h, _, _ => by cases h
 | .mk _ _ _ _ _, _, _, _, _, h, _, _, _, _, _ => by cases h
 | .fcons _ _ _, _, _, _, _, h, _, _, _, _, _ => by cases h
 | .lcons a r, .nil, _, _, _, _, _, _, _, h, _ => by cases h
 | .lcons a r, .mk _ _ _ _ _, _, _, _, _, h, _, _, _, _ => by cases h
 | .lcons a r, .fcons _ _ _, _, _, _, _, h, _, _, _, _ => by cases h
 | .lcons a r, .lcons b r', 0, p, p', _, _, _, h1, h2, hne => by
  obtain rfl := Option.some.inj h1
  obtain rfl := Option.some.inj h2
  show (if _ then _ else _) = _
  rw [if_pos hne]
 | .lcons a r, .lcons b r', q + 1, p, p', hl, hl', hz, h1, h2, hne => by
  show (if _ then _ else _) = _
  rw [if_neg (fun h => h (hz 0 (by omega) a b rfl rfl))]
  exact cmpL_at r r' q p p' hl hl' (fun i hi x y hx hy => hz (i + 1) (by omega) x y hx hy) h1 h2 hne
theorem cmpL_end : ∀ (l l' : Tr), l.isL = true → l'.isL = true → (∀ (i : Nat) (x y : Tr), l.lst[i]? = some x → l'.lst[i]? = some y → x.cmp y = 0) → l.cmp l' = Lib.compareInt l.len l'.len
 | .nil, l', _, _, _ => by
  show (if l'.len = 0 then 0 else -1) = _
  split
  ·rename_i h; rw [h]; rfl
  ·rename_i h
   exact (compareInt_neg (by show ((0 : Nat) : Int) < _; omega)).symm
 | .mk _ _ _ _ _, _, h, _, _ => by cases h
 | .fcons _ _ _, _, h, _, _ => by cases h
 | .lcons a r, .nil, _, _, _ => by
  show (1 : Int) = _
  exact (compareInt_pos (by show ((0 : Nat) : Int) < ((r.lst.length + 1 : Nat) : Int); omega)).symm
 | .lcons a r, .mk _ _ _ _ _, _, h, _ => by cases h
 | .lcons a r, .fcons _ _ _, _, h, _ => by cases h
 | .lcons a r, .lcons b r', hl, hl', hz => by
  show (if _ then _ else _) = _
  rw [if_neg (fun h => h (hz 0 a b rfl rfl)), cmpL_end r r' hl hl' (fun i x y hx hy => hz (i + 1) x y hx hy)]
  show Lib.compareInt (r.lst.length : Int) (r'.lst.length : Int) = Lib.compareInt ((r.lst.length + 1 : Nat) : Int) ((r'.lst.length + 1 : Nat) : Int)
  unfold Lib.compareInt
  repeat' split
  all_goals first | rfl | omega
abbrev cB (m m' : ByteArray) : Int := Lib.compareBytes m.data.toList m'.data.toList
theorem cmpF_atN : ∀ (l l' : Tr) (q : Nat) (m m' : ByteArray), l.isF = true → l'.isF = true → (∀ i, i < q → ∀ x y, l.nms[i]? = some x → l'.nms[i]? = some y → cB x y = 0) → (∀ i, i < q → ∀ x y, l.lst[i]? = some x → l'.lst[i]? = some y → x.cmp y = 0) → l.nms[q]? = some m → l'.nms[q]? = some m' → ¬ cB m m' = 0 → l.cmp l' = cB m m'
 | .nil, _, _, _, _, _, _, _, _, h, _, _ => by cases h
 | .mk _ _ _ _ _, _, _, _, _, h, _, _, _, _, _, _ => by cases h
 | .lcons _ _, _, _, _, _, h, _, _, _, _, _, _ => by cases h
 | .fcons n a r, .nil, _, _, _, _, _, _, _, _, h, _ => by cases h
 | .fcons n a r, .mk _ _ _ _ _, _, _, _, _, h, _, _, _, _, _ => by cases h
 | .fcons n a r, .lcons _ _, _, _, _, _, h, _, _, _, _, _ => by cases h
 | .fcons n a r, .fcons n' b r', 0, m, m', _, _, _, _, h1, h2, hne => by
  obtain rfl := Option.some.inj h1
  obtain rfl := Option.some.inj h2
  show (if _ then _ else _) = _
  rw [if_pos hne]
 | .fcons n a r, .fcons n' b r', q + 1, m, m', hl, hl', hn, hz, h1, h2, hne => by
  show (if _ then _ else if _ then _ else _) = _
  rw [if_neg (fun h => h (hn 0 (by omega) n n' rfl rfl)), if_neg (fun h => h (hz 0 (by omega) a b rfl rfl))]
  exact cmpF_atN r r' q m m' hl hl' (fun i hi x y hx hy => hn (i + 1) (by omega) x y hx hy) (fun i hi x y hx hy => hz (i + 1) (by omega) x y hx hy) h1 h2 hne
theorem cmpF_at : ∀ (l l' : Tr) (q : Nat) (p p' : Tr), l.isF = true → l'.isF = true → (∀ i, i < q + 1 → ∀ x y, l.nms[i]? = some x → l'.nms[i]? = some y → cB x y = 0) → (∀ i, i < q → ∀ x y, l.lst[i]? = some x → l'.lst[i]? = some y → x.cmp y = 0) → l.lst[q]? = some p → l'.lst[q]? = some p' → ¬ p.cmp p' = 0 → l.cmp l' = p.cmp p'
 | .nil, _, _, _, _, _, _, _, _, h, _, _ => by cases h
 | .mk _ _ _ _ _, _, _, _, _, h, _, _, _, _, _, _ => by cases h
 | .lcons _ _, _, _, _, _, h, _, _, _, _, _, _ => by cases h
 | .fcons n a r, .nil, _, _, _, _, _, _, _, _, h, _ => by cases h
 | .fcons n a r, .mk _ _ _ _ _, _, _, _, _, h, _, _, _, _, _ => by cases h
 | .fcons n a r, .lcons _ _, _, _, _, _, h, _, _, _, _, _ => by cases h
 | .fcons n a r, .fcons n' b r', 0, p, p', _, _, hn, _, h1, h2, hne => by
  obtain rfl := Option.some.inj h1
  obtain rfl := Option.some.inj h2
  show (if _ then _ else if _ then _ else _) = _
  rw [if_neg (fun h => h (hn 0 (by omega) n n' rfl rfl)), if_pos hne]
 | .fcons n a r, .fcons n' b r', q + 1, p, p', hl, hl', hn, hz, h1, h2, hne => by
  show (if _ then _ else if _ then _ else _) = _
  rw [if_neg (fun h => h (hn 0 (by omega) n n' rfl rfl)), if_neg (fun h => h (hz 0 (by omega) a b rfl rfl))]
  exact cmpF_at r r' q p p' hl hl' (fun i hi x y hx hy => hn (i + 1) (by omega) x y hx hy) (fun i hi x y hx hy => hz (i + 1) (by omega) x y hx hy) h1 h2 hne
theorem cmpF_end : ∀ (l l' : Tr), l.isF = true → l'.isF = true → (∀ (i : Nat) (x y : ByteArray), l.nms[i]? = some x → l'.nms[i]? = some y → cB x y = 0) → (∀ (i : Nat) (x y : Tr), l.lst[i]? = some x → l'.lst[i]? = some y → x.cmp y = 0) → l.cmp l' = Lib.compareInt l.len l'.len
 | .nil, l', _, _, _, _ => by
  show (if l'.len = 0 then 0 else -1) = _
  split
  ·rename_i h; rw [h]; rfl
  ·rename_i h
   exact (compareInt_neg (by show ((0 : Nat) : Int) < _; omega)).symm
 | .mk _ _ _ _ _, _, h, _, _, _ => by cases h
 | .lcons _ _, _, h, _, _, _ => by cases h
 | .fcons n a r, .nil, _, _, _, _ => by
  show (1 : Int) = _
  exact (compareInt_pos (by show ((0 : Nat) : Int) < ((r.lst.length + 1 : Nat) : Int); omega)).symm
 | .fcons n a r, .mk _ _ _ _ _, _, h, _, _ => by cases h
 | .fcons n a r, .lcons _ _, _, h, _, _ => by cases h
 | .fcons n a r, .fcons n' b r', hl, hl', hn, hz => by
  show (if _ then _ else if _ then _ else _) = _
  rw [if_neg (fun h => h (hn 0 n n' rfl rfl)), if_neg (fun h => h (hz 0 a b rfl rfl)), cmpF_end r r' hl hl' (fun i x y hx hy => hn (i + 1) x y hx hy) (fun i x y hx hy => hz (i + 1) x y hx hy)]
  show Lib.compareInt (r.lst.length : Int) (r'.lst.length : Int) = Lib.compareInt ((r.lst.length + 1 : Nat) : Int) ((r'.lst.length + 1 : Nat) : Int)
  unfold Lib.compareInt
  repeat' split
  all_goals first | rfl | omega
theorem field_val {W : World} {B o : Nat} {m : ByteArray} {ps : List Value} (h : W.rangeAt B o (.string m :: ps)) : W.rangeAt B (o + 1) ps := fun j u hu => by
 have := h (j + 1) u hu
 rwa [show o + 1 + j = o + (j + 1) by omega]
def CmpC (n : Nat) : Prop := ∀ (a : Tr), a.sz ≤ n → ∀ (b : Tr) (w : World) (F G : Nat → Prop) (cs ds : List Value), VAt w F a cs → VAt w G b ds → Calls Tryz.prog 22 #[.agg cs.toArray, .agg ds.toArray] w fun e w' => e = .returned (.int .i64 (a.cmp b)) ∧ Below w.heap.size w w'
theorem cmp_K3 {n0 : Nat} (hn : CmpC n0) (n n' : Int) (s s' : ByteArray) (lt dt lt' dt' : Tr) (hsz0 : (Tr.mk 3 n s lt dt).sz ≤ n0 + 1) (w : World) (F G : Nat → Prop) (cs ds : List Value) (hv0 : VAt w F (Tr.mk 3 n s lt dt) cs) (hv1 : VAt w G (Tr.mk 3 n' s' lt' dt') ds) : Calls Tryz.prog 22 #[.agg cs.toArray, .agg ds.toArray] w fun e w' => e = .returned (.int .i64 ((Tr.mk 3 n s lt dt).cmp (Tr.mk 3 n' s' lt' dt'))) ∧ Below w.heap.size w w' := by
 have hv := hv0.low
 have hv2 := hv1.low
 obtain ⟨la, lc, da, dc, rfl, wk, wn, ws, hL, hD⟩ := hv.parts
 obtain ⟨la2, lc2, da2, dc2, rfl, wk2, wn2, ws2, hL2, hD2⟩ := hv2.parts
 obtain ⟨_, _, e1, hlL, hl1, hl2, _⟩ := id hL
 obtain ⟨_, _, rfl⟩ := Value.slice.inj e1
 obtain ⟨_, _, e2, hdF, hd1, hd2, _⟩ := id hD
 obtain ⟨_, _, rfl⟩ := Value.slice.inj e2
 obtain ⟨_, _, e3, hlL', hl1', hl2', _⟩ := id hL2
 obtain ⟨_, _, rfl⟩ := Value.slice.inj e3
 obtain ⟨_, _, e4, hdF', hd1', hd2', _⟩ := id hD2
 obtain ⟨_, _, rfl⟩ := Value.slice.inj e4
 unfold maxLen at hl2 hd2 hl2' hd2'
 simp only [Tr.sz] at hsz0
 refine cv2 Tryz.func22 rfl rfl rfl fun a hf => ?_
 have hX := Bx.start w
 refine gc hf ?_
 intro a hf
 refine sv_box hf hX rfl dd (fun a C1 W hC hf hX hA => ?_)
 clear hC hA
 refine sv_box hf hX rfl dd (fun a C2 W hC hf hX hA => ?_)
 clear hC hA
 refine go hf ?_
 intro a hf
 refine wp_block ?_
 refine gc hf ?_
 intro a hf
 refine sv_call hf fnOK_43 rfl (Tryz.cmp_Compare_int n n' W) dd ?_
 rintro e W' ⟨rfl, hw⟩
 obtain rfl := hw
 refine ⟨_, rfl, fun a hf => ?_⟩
 refine go hf ?_
 intro a hf
 exact rt hf rfl rfl ⟨congrArg (fun z => Ending.returned (Value.int .i64 z)) (by rw [cmp_mk]; simp), hX.low⟩
theorem cmp_K9 {n0 : Nat} (hn : CmpC n0) (n n' : Int) (s s' : ByteArray) (lt dt lt' dt' : Tr) (hsz0 : (Tr.mk 9 n s lt dt).sz ≤ n0 + 1) (w : World) (F G : Nat → Prop) (cs ds : List Value) (hv0 : VAt w F (Tr.mk 9 n s lt dt) cs) (hv1 : VAt w G (Tr.mk 9 n' s' lt' dt') ds) : Calls Tryz.prog 22 #[.agg cs.toArray, .agg ds.toArray] w fun e w' => e = .returned (.int .i64 ((Tr.mk 9 n s lt dt).cmp (Tr.mk 9 n' s' lt' dt'))) ∧ Below w.heap.size w w' := by
 have hv := hv0.low
 have hv2 := hv1.low
 obtain ⟨la, lc, da, dc, rfl, wk, wn, ws, hL, hD⟩ := hv.parts
 obtain ⟨la2, lc2, da2, dc2, rfl, wk2, wn2, ws2, hL2, hD2⟩ := hv2.parts
 obtain ⟨_, _, e1, hlL, hl1, hl2, _⟩ := id hL
 obtain ⟨_, _, rfl⟩ := Value.slice.inj e1
 obtain ⟨_, _, e2, hdF, hd1, hd2, _⟩ := id hD
 obtain ⟨_, _, rfl⟩ := Value.slice.inj e2
 obtain ⟨_, _, e3, hlL', hl1', hl2', _⟩ := id hL2
 obtain ⟨_, _, rfl⟩ := Value.slice.inj e3
 obtain ⟨_, _, e4, hdF', hd1', hd2', _⟩ := id hD2
 obtain ⟨_, _, rfl⟩ := Value.slice.inj e4
 unfold maxLen at hl2 hd2 hl2' hd2'
 simp only [Tr.sz] at hsz0
 refine cv2 Tryz.func22 rfl rfl rfl fun a hf => ?_
 have hX := Bx.start w
 refine gc hf ?_
 intro a hf
 refine sv_box hf hX rfl dd (fun a C1 W hC hf hX hA => ?_)
 clear hC hA
 refine sv_box hf hX rfl dd (fun a C2 W hC hf hX hA => ?_)
 clear hC hA
 refine go hf ?_
 intro a hf
 refine wp_block ?_
 refine gc hf ?_
 intro a hf
 refine sv_call hf fnOK_43 rfl (Tryz.cmp_Compare_int n n' W) dd ?_
 rintro e W' ⟨rfl, hw⟩
 obtain rfl := hw
 refine ⟨_, rfl, fun a hf => ?_⟩
 refine go hf ?_
 intro a hf
 exact rt hf rfl rfl ⟨congrArg (fun z => Ending.returned (Value.int .i64 z)) (by rw [cmp_mk]; simp), hX.low⟩
theorem cmp_K10 {n0 : Nat} (hn : CmpC n0) (n n' : Int) (s s' : ByteArray) (lt dt lt' dt' : Tr) (hsz0 : (Tr.mk 10 n s lt dt).sz ≤ n0 + 1) (w : World) (F G : Nat → Prop) (cs ds : List Value) (hv0 : VAt w F (Tr.mk 10 n s lt dt) cs) (hv1 : VAt w G (Tr.mk 10 n' s' lt' dt') ds) : Calls Tryz.prog 22 #[.agg cs.toArray, .agg ds.toArray] w fun e w' => e = .returned (.int .i64 ((Tr.mk 10 n s lt dt).cmp (Tr.mk 10 n' s' lt' dt'))) ∧ Below w.heap.size w w' := by
 have hv := hv0.low
 have hv2 := hv1.low
 obtain ⟨la, lc, da, dc, rfl, wk, wn, ws, hL, hD⟩ := hv.parts
 obtain ⟨la2, lc2, da2, dc2, rfl, wk2, wn2, ws2, hL2, hD2⟩ := hv2.parts
 obtain ⟨_, _, e1, hlL, hl1, hl2, _⟩ := id hL
 obtain ⟨_, _, rfl⟩ := Value.slice.inj e1
 obtain ⟨_, _, e2, hdF, hd1, hd2, _⟩ := id hD
 obtain ⟨_, _, rfl⟩ := Value.slice.inj e2
 obtain ⟨_, _, e3, hlL', hl1', hl2', _⟩ := id hL2
 obtain ⟨_, _, rfl⟩ := Value.slice.inj e3
 obtain ⟨_, _, e4, hdF', hd1', hd2', _⟩ := id hD2
 obtain ⟨_, _, rfl⟩ := Value.slice.inj e4
 unfold maxLen at hl2 hd2 hl2' hd2'
 simp only [Tr.sz] at hsz0
 refine cv2 Tryz.func22 rfl rfl rfl fun a hf => ?_
 have hX := Bx.start w
 refine gc hf ?_
 intro a hf
 refine sv_box hf hX rfl dd (fun a C1 W hC hf hX hA => ?_)
 clear hC hA
 refine sv_box hf hX rfl dd (fun a C2 W hC hf hX hA => ?_)
 clear hC hA
 refine go hf ?_
 intro a hf
 refine wp_block ?_
 refine gc hf ?_
 intro a hf
 refine sv_call hf fnOK_43 rfl (Tryz.cmp_Compare_int n n' W) dd ?_
 rintro e W' ⟨rfl, hw⟩
 obtain rfl := hw
 refine ⟨_, rfl, fun a hf => ?_⟩
 refine go hf ?_
 intro a hf
 exact rt hf rfl rfl ⟨congrArg (fun z => Ending.returned (Value.int .i64 z)) (by rw [cmp_mk]; simp), hX.low⟩
theorem cmp_K4 {n0 : Nat} (hn : CmpC n0) (n n' : Int) (s s' : ByteArray) (lt dt lt' dt' : Tr) (hsz0 : (Tr.mk 4 n s lt dt).sz ≤ n0 + 1) (w : World) (F G : Nat → Prop) (cs ds : List Value) (hv0 : VAt w F (Tr.mk 4 n s lt dt) cs) (hv1 : VAt w G (Tr.mk 4 n' s' lt' dt') ds) : Calls Tryz.prog 22 #[.agg cs.toArray, .agg ds.toArray] w fun e w' => e = .returned (.int .i64 ((Tr.mk 4 n s lt dt).cmp (Tr.mk 4 n' s' lt' dt'))) ∧ Below w.heap.size w w' := by
 have hv := hv0.low
 have hv2 := hv1.low
 obtain ⟨la, lc, da, dc, rfl, wk, wn, ws, hL, hD⟩ := hv.parts
 obtain ⟨la2, lc2, da2, dc2, rfl, wk2, wn2, ws2, hL2, hD2⟩ := hv2.parts
 obtain ⟨_, _, e1, hlL, hl1, hl2, _⟩ := id hL
 obtain ⟨_, _, rfl⟩ := Value.slice.inj e1
 obtain ⟨_, _, e2, hdF, hd1, hd2, _⟩ := id hD
 obtain ⟨_, _, rfl⟩ := Value.slice.inj e2
 obtain ⟨_, _, e3, hlL', hl1', hl2', _⟩ := id hL2
 obtain ⟨_, _, rfl⟩ := Value.slice.inj e3
 obtain ⟨_, _, e4, hdF', hd1', hd2', _⟩ := id hD2
 obtain ⟨_, _, rfl⟩ := Value.slice.inj e4
 unfold maxLen at hl2 hd2 hl2' hd2'
 simp only [Tr.sz] at hsz0
 refine cv2 Tryz.func22 rfl rfl rfl fun a hf => ?_
 have hX := Bx.start w
 refine gc hf ?_
 intro a hf
 refine sv_box hf hX rfl dd (fun a C1 W hC hf hX hA => ?_)
 clear hC hA
 refine sv_box hf hX rfl dd (fun a C2 W hC hf hX hA => ?_)
 clear hC hA
 refine go hf ?_
 intro a hf
 refine wp_block ?_
 refine gc hf ?_
 intro a hf
 obtain ⟨cn, hcn⟩ : ∃ c, c = cB s s' := ⟨_, rfl⟩
 refine sv_call hf fnOK_44 rfl (Tryz.strings_Compare s s' _) dd ?_
 rintro e W' ⟨rfl, hw⟩
 obtain rfl := hw
 refine ⟨_, rfl, fun a hf => ?_⟩
 rw [← show cn = Lib.compareBytes _ _ from hcn] at hf
 refine go hf ?_
 intro a hf
 exact rt hf rfl rfl ⟨congrArg (fun z => Ending.returned (Value.int .i64 z)) (by rw [cmp_mk]; simp; exact hcn), hX.low⟩
theorem cmp_K7 {n0 : Nat} (hn : CmpC n0) (n n' : Int) (s s' : ByteArray) (lt dt lt' dt' : Tr) (hsz0 : (Tr.mk 7 n s lt dt).sz ≤ n0 + 1) (w : World) (F G : Nat → Prop) (cs ds : List Value) (hv0 : VAt w F (Tr.mk 7 n s lt dt) cs) (hv1 : VAt w G (Tr.mk 7 n' s' lt' dt') ds) : Calls Tryz.prog 22 #[.agg cs.toArray, .agg ds.toArray] w fun e w' => e = .returned (.int .i64 ((Tr.mk 7 n s lt dt).cmp (Tr.mk 7 n' s' lt' dt'))) ∧ Below w.heap.size w w' := by
 have hv := hv0.low
 have hv2 := hv1.low
 obtain ⟨la, lc, da, dc, rfl, wk, wn, ws, hL, hD⟩ := hv.parts
 obtain ⟨la2, lc2, da2, dc2, rfl, wk2, wn2, ws2, hL2, hD2⟩ := hv2.parts
 obtain ⟨_, _, e1, hlL, hl1, hl2, _⟩ := id hL
 obtain ⟨_, _, rfl⟩ := Value.slice.inj e1
 obtain ⟨_, _, e2, hdF, hd1, hd2, _⟩ := id hD
 obtain ⟨_, _, rfl⟩ := Value.slice.inj e2
 obtain ⟨_, _, e3, hlL', hl1', hl2', _⟩ := id hL2
 obtain ⟨_, _, rfl⟩ := Value.slice.inj e3
 obtain ⟨_, _, e4, hdF', hd1', hd2', _⟩ := id hD2
 obtain ⟨_, _, rfl⟩ := Value.slice.inj e4
 unfold maxLen at hl2 hd2 hl2' hd2'
 simp only [Tr.sz] at hsz0
 refine cv2 Tryz.func22 rfl rfl rfl fun a hf => ?_
 have hX := Bx.start w
 refine gc hf ?_
 intro a hf
 refine sv_box hf hX rfl dd (fun a C1 W hC hf hX hA => ?_)
 clear hC hA
 refine sv_box hf hX rfl dd (fun a C2 W hC hf hX hA => ?_)
 clear hC hA
 refine go hf ?_
 intro a hf
 refine wp_block ?_
 refine gc hf ?_
 intro a hf
 obtain ⟨cn, hcn⟩ : ∃ c, c = cB s s' := ⟨_, rfl⟩
 refine sv_call hf fnOK_44 rfl (Tryz.strings_Compare s s' _) dd ?_
 rintro e W' ⟨rfl, hw⟩
 obtain rfl := hw
 refine ⟨_, rfl, fun a hf => ?_⟩
 rw [← show cn = Lib.compareBytes _ _ from hcn] at hf
 refine go hf ?_
 intro a hf
 exact rt hf rfl rfl ⟨congrArg (fun z => Ending.returned (Value.int .i64 z)) (by rw [cmp_mk]; simp; exact hcn), hX.low⟩
theorem cmp_K8 {n0 : Nat} (hn : CmpC n0) (n n' : Int) (s s' : ByteArray) (lt dt lt' dt' : Tr) (hsz0 : (Tr.mk 8 n s lt dt).sz ≤ n0 + 1) (w : World) (F G : Nat → Prop) (cs ds : List Value) (hv0 : VAt w F (Tr.mk 8 n s lt dt) cs) (hv1 : VAt w G (Tr.mk 8 n' s' lt' dt') ds) : Calls Tryz.prog 22 #[.agg cs.toArray, .agg ds.toArray] w fun e w' => e = .returned (.int .i64 ((Tr.mk 8 n s lt dt).cmp (Tr.mk 8 n' s' lt' dt'))) ∧ Below w.heap.size w w' := by
 have hv := hv0.low
 have hv2 := hv1.low
 obtain ⟨la, lc, da, dc, rfl, wk, wn, ws, hL, hD⟩ := hv.parts
 obtain ⟨la2, lc2, da2, dc2, rfl, wk2, wn2, ws2, hL2, hD2⟩ := hv2.parts
 obtain ⟨_, _, e1, hlL, hl1, hl2, _⟩ := id hL
 obtain ⟨_, _, rfl⟩ := Value.slice.inj e1
 obtain ⟨_, _, e2, hdF, hd1, hd2, _⟩ := id hD
 obtain ⟨_, _, rfl⟩ := Value.slice.inj e2
 obtain ⟨_, _, e3, hlL', hl1', hl2', _⟩ := id hL2
 obtain ⟨_, _, rfl⟩ := Value.slice.inj e3
 obtain ⟨_, _, e4, hdF', hd1', hd2', _⟩ := id hD2
 obtain ⟨_, _, rfl⟩ := Value.slice.inj e4
 unfold maxLen at hl2 hd2 hl2' hd2'
 simp only [Tr.sz] at hsz0
 refine cv2 Tryz.func22 rfl rfl rfl fun a hf => ?_
 have hX := Bx.start w
 refine gc hf ?_
 intro a hf
 refine sv_box hf hX rfl dd (fun a C1 W hC hf hX hA => ?_)
 clear hC hA
 refine sv_box hf hX rfl dd (fun a C2 W hC hf hX hA => ?_)
 clear hC hA
 refine go hf ?_
 intro a hf
 refine wp_block ?_
 refine gc hf ?_
 intro a hf
 obtain ⟨cn, hcn⟩ : ∃ c, c = cB s s' := ⟨_, rfl⟩
 refine sv_call hf fnOK_44 rfl (Tryz.strings_Compare s s' _) dd ?_
 rintro e W' ⟨rfl, hw⟩
 obtain rfl := hw
 refine ⟨_, rfl, fun a hf => ?_⟩
 rw [← show cn = Lib.compareBytes _ _ from hcn] at hf
 refine go hf ?_
 intro a hf
 exact rt hf rfl rfl ⟨congrArg (fun z => Ending.returned (Value.int .i64 z)) (by rw [cmp_mk]; simp; exact hcn), hX.low⟩
theorem cmp_K6 {n0 : Nat} (hn : CmpC n0) (n n' : Int) (s s' : ByteArray) (lt dt lt' dt' : Tr) (hsz0 : (Tr.mk 6 n s lt dt).sz ≤ n0 + 1) (w : World) (F G : Nat → Prop) (cs ds : List Value) (hv0 : VAt w F (Tr.mk 6 n s lt dt) cs) (hv1 : VAt w G (Tr.mk 6 n' s' lt' dt') ds) : Calls Tryz.prog 22 #[.agg cs.toArray, .agg ds.toArray] w fun e w' => e = .returned (.int .i64 ((Tr.mk 6 n s lt dt).cmp (Tr.mk 6 n' s' lt' dt'))) ∧ Below w.heap.size w w' := by
 have hv := hv0.low
 have hv2 := hv1.low
 obtain ⟨la, lc, da, dc, rfl, wk, wn, ws, hL, hD⟩ := hv.parts
 obtain ⟨la2, lc2, da2, dc2, rfl, wk2, wn2, ws2, hL2, hD2⟩ := hv2.parts
 obtain ⟨_, _, e1, hlL, hl1, hl2, _⟩ := id hL
 obtain ⟨_, _, rfl⟩ := Value.slice.inj e1
 obtain ⟨_, _, e2, hdF, hd1, hd2, _⟩ := id hD
 obtain ⟨_, _, rfl⟩ := Value.slice.inj e2
 obtain ⟨_, _, e3, hlL', hl1', hl2', _⟩ := id hL2
 obtain ⟨_, _, rfl⟩ := Value.slice.inj e3
 obtain ⟨_, _, e4, hdF', hd1', hd2', _⟩ := id hD2
 obtain ⟨_, _, rfl⟩ := Value.slice.inj e4
 unfold maxLen at hl2 hd2 hl2' hd2'
 simp only [Tr.sz] at hsz0
 refine cv2 Tryz.func22 rfl rfl rfl fun a hf => ?_
 have hX := Bx.start w
 refine gc hf ?_
 intro a hf
 refine sv_box hf hX rfl dd (fun a C1 W hC hf hX hA => ?_)
 clear hC hA
 refine sv_box hf hX rfl dd (fun a C2 W hC hf hX hA => ?_)
 clear hC hA
 refine go hf ?_
 intro a hf
 refine wp_block ?_
 refine gc hf ?_
 intro a hf
 refine sv_len hf rfl u26 dd (fun a hf => ?_)
 refine go hf ?_
 intro a hf
 refine sv_len hf rfl u26 dd (fun a hf => ?_)
 refine sv_run (v := .int .i64 (min ((lt.len : Nat) : Int) ((lt'.len : Nat) : Int))) hf dd (fun a hf => ex_min hf rfl rfl rfl u3) (fun a hf => ?_)
 refine go hf ?_
 intro a hf
 obtain ⟨M, hM⟩ : ∃ M : Nat, min ((lt.len : Nat) : Int) ((lt'.len : Nat) : Int) = (M : Int) := ⟨min lt.len lt'.len, by simp only [Int.min_def, Nat.min_def]; split <;> split <;> omega⟩
 have hM1 : M ≤ lt.len ∧ M ≤ lt'.len ∧ (M = lt.len ∨ M = lt'.len) := by simp only [Int.min_def] at hM; split at hM <;> omega
 rw [hM] at hf
 refine wp_block (wp_loop (fun a X => ∃ (q : Nat), FrV 126 [(2, .pointer (some ⟨C1, 0, none⟩)), (3, .pointer (some ⟨C2, 0, none⟩)), (48, .int .i64 (M : Int)), (49, .int .i64 (q : Int))] a ∧ Bx ⟨w, []⟩ [(C2, [.int .i64 6, .int .i64 n', .string s', .slice la2 lt'.len lc2, .slice da2 dt'.len dc2]), (C1, [.int .i64 6, .int .i64 n, .string s, .slice la lt.len lc, .slice da dt.len dc])] X ∧ q ≤ M ∧ (∀ i, i < q → ∀ x y, lt.lst[i]? = some x → lt'.lst[i]? = some y → x.cmp y = 0)) (fun a _ => M - (intOf (a.eval (.tmp 49))).toNat) ⟨0, hf.sub (sub_cons rfl (sub_cons rfl (sub_cons rfl (sub_cons rfl (sub_nil))))), hX, Nat.zero_le _, fun i hi => absurd hi (Nat.not_lt_zero i)⟩ ?_)
 clear hf hX
 rintro a W ⟨q, hf, hX, hq, hz⟩
 have hm49 : a.eval (.tmp 49) = .int .i64 (q : Int) := hf.rel 49 _ rfl
 rcases Decidable.em ((q : Int) < (M : Int)) with hgo | hgo
 ·
  refine gc hf ?_
  intro a hf
  refine ct hf hgo fun a hf => ?_
  refine go hf ?_
  intro a hf
  refine wp_block ?_
  have hqx : q < lt.len := by omega
  have hqy : q < lt'.len := by omega
  obtain ⟨LB, LO, _, p, ps, hsl, hFB, hLB, hpq, hps, hr, hvp⟩ := hL.get hqx
  obtain ⟨LC, LP, _, r, rs, hsl2, hFC, hLC, hrq, hrs, hs2, hvr⟩ := hL2.get hqy
  obtain ⟨hla, _, _⟩ := Value.slice.inj hsl
  obtain ⟨hlb, _, _⟩ := Value.slice.inj hsl2
  refine gc hf ?_
  intro a hf
  refine wp_region_ordW 12 11 [(0, 0), (1, 1), (2, 0), (3, 0), (4, 1), (5, 0), (6, 1), (7, 0), (8, 0), (9, 1), (10, 2), (11, 3)] (fun X => Bx ⟨w, []⟩ [(C2, [.int .i64 6, .int .i64 n', .string s', .slice la2 lt'.len lc2, .slice da2 dt'.len dc2]), (C1, [.int .i64 6, .int .i64 n, .string s, .slice la lt.len lc, .slice da dt.len dc])] X) mixed (by kernel_rfl) hX.drew (fun c a d v w h => by cases d <;> exact h) ?_
  replace hX := hX.drew
  refine o0 hf fun a hf => ?_
  refine ov1 hf rfl rfl dd rfl (fun X hS => ex_vlc (cs := [.int .i64 6, .int .i64 n, .string s, .slice la lt.len lc, .slice da dt.len dc]) hf rfl rfl (hS.get (i := 1) rfl) rfl u26 rfl) (fun a hf => ?_)
  refine o0 hf fun a hf => ?_
  refine ov0 hf rfl rfl dd rfl (fun X => ex_idx (k := 5) (q := q) (B := LB) (p := LO) hf rfl (show _ = some (Value.slice (some ⟨LB, LO, none⟩) lt.len lc) from by rw [← hla]; rfl) rfl hqx u26 einfo_vals) (fun a hf => ?_)
  refine ov1 hf rfl rfl dd rfl (fun X hS => ex_load_row _ (.tmp 55) _ _ ps _ rfl (hf.rel _ _ rfl) (rep_row_mono hr (hS.low.block LB hLB)) u29 rfl (by rw [hps]; exact info_val)) (fun a hf => ?_)
  refine o0 hf fun a hf => ?_
  refine ov1 hf rfl rfl dd rfl (fun X hS => ex_vlc (cs := [.int .i64 6, .int .i64 n', .string s', .slice la2 lt'.len lc2, .slice da2 dt'.len dc2]) hf rfl rfl (hS.get (i := 0) rfl) rfl u26 rfl) (fun a hf => ?_)
  refine o0 hf fun a hf => ?_
  refine ov0 hf rfl rfl dd rfl (fun X => ex_idx (k := 5) (q := q) (B := LC) (p := LP) hf rfl (show _ = some (Value.slice (some ⟨LC, LP, none⟩) lt'.len lc2) from by rw [← hlb]; rfl) rfl hqy u26 einfo_vals) (fun a hf => ?_)
  refine ov1 hf rfl rfl dd rfl (fun X hS => ex_load_row _ (.tmp 60) _ _ rs _ rfl (hf.rel _ _ rfl) (rep_row_mono hs2 (hS.low.block LC hLC)) u29 rfl (by rw [hrs]; exact info_val)) (fun a hf => ?_)
  obtain ⟨cv, hcv⟩ : ∃ c, c = p.cmp r := ⟨_, rfl⟩
  refine ov2c hf rfl rfl dd rfl rfl fnOK_22 rfl (hn p (by have := Tr.sz_lst lt p (List.mem_of_getElem? hpq); omega) r _ (LowF w) (LowF w) ps rs (hvp.kept hX.low.size (fun k hk _ => hX.low.block k hk) (fun _ h _ => h)) (hvr.kept hX.low.size (fun k hk _ => hX.low.block k hk) (fun _ h _ => h))) ?_
  rintro e W ⟨rfl, hb⟩
  replace hX := hX.keep hb
  clear hb
  refine ⟨_, rfl, hX, fun a hf => ?_⟩
  rw [← hcv] at hf
  refine ov3v hf rfl rfl dd rfl (ex_vas hf rfl rfl) (fun a hf => ?_)
  refine wpOrd_nil ?_
  refine gc hf ?_
  intro a hf
  rcases Decidable.em (cv = 0) with hq3 | hq3
  ·
   refine nt hf hq3 fun a hf => ?_
   refine go hf ?_
   intro a hf
   refine sv_add ((q + 1 : Nat) : Int) hf rfl rfl (by rw [wrap_in (by omega)]; rfl) dd (fun a hf => ?_)
   refine go hf ?_
   intro a hf
   refine ⟨⟨q + 1, hf.sub (sub_cons rfl (sub_cons rfl (sub_cons rfl (sub_cons rfl (sub_nil))))), hX, by omega, fun i hi x y hx hy => ?_⟩, ?_⟩
   ·by_cases e : i = q
    ·subst e; rw [hpq] at hx; rw [hrq] at hy; obtain rfl := Option.some.inj hx; obtain rfl := Option.some.inj hy; exact hcv.symm.trans hq3
    ·exact hz i (by omega) x y hx hy
   have h5 : a.eval (.tmp 49) = .int .i64 ((q + 1 : Nat) : Int) := hf.rel 49 _ rfl
   rw [h5, hm49]; simp only [intOf, Int.toNat_natCast]; omega
  ·
   refine nf hf hq3 fun a hf => ?_
   refine go hf ?_
   intro a hf
   exact rt hf rfl rfl ⟨congrArg (fun z => Ending.returned (Value.int .i64 z)) (by rw [cmp_mk]; simp; rw [cmpL_at lt lt' q p r hlL hlL' hz hpq hrq (hcv ▸ hq3)]; exact hcv), hX.low⟩
 ·
  refine gc hf ?_
  intro a hf
  refine cf hf hgo fun a hf => ?_
  refine go hf ?_
  intro a hf
  refine wp_exit ?_
  simp only [Exit.inBlock, Exit.then, ↓reduceIte]
  refine gc hf ?_
  intro a hf
  refine sv_len hf rfl u26 dd (fun a hf => ?_)
  refine go hf ?_
  intro a hf
  refine sv_len hf rfl u26 dd (fun a hf => ?_)
  refine sv_call hf fnOK_43 rfl (Tryz.cmp_Compare_int ((lt.len : Nat) : Int) ((lt'.len : Nat) : Int) W) dd ?_
  rintro e W' ⟨rfl, hw⟩
  obtain rfl := hw
  refine ⟨_, rfl, fun a hf => ?_⟩
  refine go hf ?_
  intro a hf
  exact rt hf rfl rfl ⟨congrArg (fun z => Ending.returned (Value.int .i64 z)) (by rw [cmp_mk]; simp; exact (cmpL_end lt lt' hlL hlL' (fun i x y hx hy => hz i (by have h1 := (List.getElem?_eq_some_iff.1 hx).1; have h2 := (List.getElem?_eq_some_iff.1 hy).1; have h3 : i < lt.len := h1; have h4 : i < lt'.len := h2; omega) x y hx hy)).symm), hX.low⟩
theorem cmp_K5 {n0 : Nat} (hn : CmpC n0) (n n' : Int) (s s' : ByteArray) (lt dt lt' dt' : Tr) (hsz0 : (Tr.mk 5 n s lt dt).sz ≤ n0 + 1) (w : World) (F G : Nat → Prop) (cs ds : List Value) (hv0 : VAt w F (Tr.mk 5 n s lt dt) cs) (hv1 : VAt w G (Tr.mk 5 n' s' lt' dt') ds) : Calls Tryz.prog 22 #[.agg cs.toArray, .agg ds.toArray] w fun e w' => e = .returned (.int .i64 ((Tr.mk 5 n s lt dt).cmp (Tr.mk 5 n' s' lt' dt'))) ∧ Below w.heap.size w w' := by
 have hv := hv0.low
 have hv2 := hv1.low
 obtain ⟨la, lc, da, dc, rfl, wk, wn, ws, hL, hD⟩ := hv.parts
 obtain ⟨la2, lc2, da2, dc2, rfl, wk2, wn2, ws2, hL2, hD2⟩ := hv2.parts
 obtain ⟨_, _, e1, hlL, hl1, hl2, _⟩ := id hL
 obtain ⟨_, _, rfl⟩ := Value.slice.inj e1
 obtain ⟨_, _, e2, hdF, hd1, hd2, _⟩ := id hD
 obtain ⟨_, _, rfl⟩ := Value.slice.inj e2
 obtain ⟨_, _, e3, hlL', hl1', hl2', _⟩ := id hL2
 obtain ⟨_, _, rfl⟩ := Value.slice.inj e3
 obtain ⟨_, _, e4, hdF', hd1', hd2', _⟩ := id hD2
 obtain ⟨_, _, rfl⟩ := Value.slice.inj e4
 unfold maxLen at hl2 hd2 hl2' hd2'
 simp only [Tr.sz] at hsz0
 refine cv2 Tryz.func22 rfl rfl rfl fun a hf => ?_
 have hX := Bx.start w
 refine gc hf ?_
 intro a hf
 refine sv_box hf hX rfl dd (fun a C1 W hC hf hX hA => ?_)
 clear hC hA
 refine sv_box hf hX rfl dd (fun a C2 W hC hf hX hA => ?_)
 clear hC hA
 refine go hf ?_
 intro a hf
 refine wp_block ?_
 refine gc hf ?_
 intro a hf
 refine sv_len hf rfl u27 dd (fun a hf => ?_)
 refine go hf ?_
 intro a hf
 refine sv_len hf rfl u27 dd (fun a hf => ?_)
 refine sv_run (v := .int .i64 (min ((dt.len : Nat) : Int) ((dt'.len : Nat) : Int))) hf dd (fun a hf => ex_min hf rfl rfl rfl u3) (fun a hf => ?_)
 refine go hf ?_
 intro a hf
 obtain ⟨M, hM⟩ : ∃ M : Nat, min ((dt.len : Nat) : Int) ((dt'.len : Nat) : Int) = (M : Int) := ⟨min dt.len dt'.len, by simp only [Int.min_def, Nat.min_def]; split <;> split <;> omega⟩
 have hM1 : M ≤ dt.len ∧ M ≤ dt'.len ∧ (M = dt.len ∨ M = dt'.len) := by simp only [Int.min_def] at hM; split at hM <;> omega
 rw [hM] at hf
 refine wp_block (wp_loop (fun a X => ∃ (q : Nat), FrV 126 [(2, .pointer (some ⟨C1, 0, none⟩)), (3, .pointer (some ⟨C2, 0, none⟩)), (82, .int .i64 (M : Int)), (83, .int .i64 (q : Int))] a ∧ Bx ⟨w, []⟩ [(C2, [.int .i64 5, .int .i64 n', .string s', .slice la2 lt'.len lc2, .slice da2 dt'.len dc2]), (C1, [.int .i64 5, .int .i64 n, .string s, .slice la lt.len lc, .slice da dt.len dc])] X ∧ q ≤ M ∧ (∀ i, i < q → ∀ x y, dt.nms[i]? = some x → dt'.nms[i]? = some y → cB x y = 0) ∧ (∀ i, i < q → ∀ x y, dt.lst[i]? = some x → dt'.lst[i]? = some y → x.cmp y = 0)) (fun a _ => M - (intOf (a.eval (.tmp 83))).toNat) ⟨0, hf.sub (sub_cons rfl (sub_cons rfl (sub_cons rfl (sub_cons rfl (sub_nil))))), hX, Nat.zero_le _, fun i hi => absurd hi (Nat.not_lt_zero i), fun i hi => absurd hi (Nat.not_lt_zero i)⟩ ?_)
 clear hf hX
 rintro a W ⟨q, hf, hX, hq, hzn, hz⟩
 have hm83 : a.eval (.tmp 83) = .int .i64 (q : Int) := hf.rel 83 _ rfl
 rcases Decidable.em ((q : Int) < (M : Int)) with hgo | hgo
 ·
  refine gc hf ?_
  intro a hf
  refine ct hf hgo fun a hf => ?_
  refine go hf ?_
  intro a hf
  refine wp_block ?_
  have hqx : q < dt.len := by omega
  have hqy : q < dt'.len := by omega
  obtain ⟨LB, LO, _, p, mn, ps, hsl, hFB, hLB, hpq, hmq, hms, hps, hr, hvp⟩ := hD.get hqx
  obtain ⟨LC, LP, _, r, mr, rs, hsl2, hFC, hLC, hrq, hmr, hms2, hrs, hs2, hvr⟩ := hD2.get hqy
  obtain ⟨hla, _, _⟩ := Value.slice.inj hsl
  obtain ⟨hlb, _, _⟩ := Value.slice.inj hsl2
  refine gc hf ?_
  intro a hf
  refine wp_region_ordW 14 13 [(0, 0), (1, 1), (2, 0), (3, 0), (4, 0), (5, 1), (6, 0), (7, 1), (8, 0), (9, 0), (10, 0), (11, 1), (12, 2), (13, 3)] (fun X => Bx ⟨w, []⟩ [(C2, [.int .i64 5, .int .i64 n', .string s', .slice la2 lt'.len lc2, .slice da2 dt'.len dc2]), (C1, [.int .i64 5, .int .i64 n, .string s, .slice la lt.len lc, .slice da dt.len dc])] X) mixed (by kernel_rfl) hX.drew (fun c a d v w h => by cases d <;> exact h) ?_
  replace hX := hX.drew
  refine o0 hf fun a hf => ?_
  refine ov1 hf rfl rfl dd rfl (fun X hS => ex_vlc (cs := [.int .i64 5, .int .i64 n, .string s, .slice la lt.len lc, .slice da dt.len dc]) hf rfl rfl (hS.get (i := 1) rfl) rfl u27 rfl) (fun a hf => ?_)
  refine o0 hf fun a hf => ?_
  refine ov0 hf rfl rfl dd rfl (fun X => ex_idx (k := 6) (q := q) (B := LB) (p := LO) hf rfl (show _ = some (Value.slice (some ⟨LB, LO, none⟩) dt.len dc) from by rw [← hla]; rfl) rfl hqx u27 einfo_flds) (fun a hf => ?_)
  refine ov0 hf rfl rfl dd rfl (fun X => ex_vfld (LO + q * 6) hf rfl rfl u78 rfl sz_str rfl) (fun a hf => ?_)
  refine ov1 hf rfl rfl dd rfl (fun X hS => ex_vlm hf rfl rfl ((rep_row_mono hr (hS.low.block LB hLB)) 0 _ rfl) u9 rfl) (fun a hf => ?_)
  refine o0 hf fun a hf => ?_
  refine ov1 hf rfl rfl dd rfl (fun X hS => ex_vlc (cs := [.int .i64 5, .int .i64 n', .string s', .slice la2 lt'.len lc2, .slice da2 dt'.len dc2]) hf rfl rfl (hS.get (i := 0) rfl) rfl u27 rfl) (fun a hf => ?_)
  refine o0 hf fun a hf => ?_
  refine ov0 hf rfl rfl dd rfl (fun X => ex_idx (k := 6) (q := q) (B := LC) (p := LP) hf rfl (show _ = some (Value.slice (some ⟨LC, LP, none⟩) dt'.len dc2) from by rw [← hlb]; rfl) rfl hqy u27 einfo_flds) (fun a hf => ?_)
  refine ov0 hf rfl rfl dd rfl (fun X => ex_vfld (LP + q * 6) hf rfl rfl u78 rfl sz_str rfl) (fun a hf => ?_)
  refine ov1 hf rfl rfl dd rfl (fun X hS => ex_vlm hf rfl rfl ((rep_row_mono hs2 (hS.low.block LC hLC)) 0 _ rfl) u9 rfl) (fun a hf => ?_)
  obtain ⟨cn, hcn⟩ : ∃ c, c = cB mn mr := ⟨_, rfl⟩
  refine ov2c hf rfl rfl dd rfl rfl fnOK_44 rfl (Tryz.strings_Compare mn mr _) ?_
  rintro e W' ⟨rfl, hw⟩
  obtain rfl := hw
  refine ⟨_, rfl, hX, fun a hf => ?_⟩
  rw [← show cn = Lib.compareBytes _ _ from hcn] at hf
  refine ov3v hf rfl rfl dd rfl (ex_vas hf rfl rfl) (fun a hf => ?_)
  refine wpOrd_nil ?_
  refine gc hf ?_
  intro a hf
  rcases Decidable.em (cn = 0) with hq3 | hq3
  ·
   refine nt hf hq3 fun a hf => ?_
   refine go hf ?_
   intro a hf
   refine wp_region_ordW 14 13 [(0, 0), (1, 1), (2, 0), (3, 0), (4, 0), (5, 1), (6, 0), (7, 1), (8, 0), (9, 0), (10, 0), (11, 1), (12, 2), (13, 3)] (fun X => Bx ⟨w, []⟩ [(C2, [.int .i64 5, .int .i64 n', .string s', .slice la2 lt'.len lc2, .slice da2 dt'.len dc2]), (C1, [.int .i64 5, .int .i64 n, .string s, .slice la lt.len lc, .slice da dt.len dc])] X) mixed (by kernel_rfl) hX.drew (fun c a d v w h => by cases d <;> exact h) ?_
   replace hX := hX.drew
   refine o0 hf fun a hf => ?_
   refine ov1 hf rfl rfl dd rfl (fun X hS => ex_vlc (cs := [.int .i64 5, .int .i64 n, .string s, .slice la lt.len lc, .slice da dt.len dc]) hf rfl rfl (hS.get (i := 1) rfl) rfl u27 rfl) (fun a hf => ?_)
   refine o0 hf fun a hf => ?_
   refine ov0 hf rfl rfl dd rfl (fun X => ex_idx (k := 6) (q := q) (B := LB) (p := LO) hf rfl (show _ = some (Value.slice (some ⟨LB, LO, none⟩) dt.len dc) from by rw [← hla]; rfl) rfl hqx u27 einfo_flds) (fun a hf => ?_)
   refine ov0 hf rfl rfl dd rfl (fun X => ex_vfld (LO + q * 6 + 1) hf rfl rfl u78 rfl sz_val rfl) (fun a hf => ?_)
   refine ov1 hf rfl rfl dd rfl (fun X hS => ex_load_row _ (.tmp 106) _ _ ps _ rfl (hf.rel _ _ rfl) (field_val (rep_row_mono hr (hS.low.block LB hLB))) u29 rfl (by rw [hps]; exact info_val)) (fun a hf => ?_)
   refine o0 hf fun a hf => ?_
   refine ov1 hf rfl rfl dd rfl (fun X hS => ex_vlc (cs := [.int .i64 5, .int .i64 n', .string s', .slice la2 lt'.len lc2, .slice da2 dt'.len dc2]) hf rfl rfl (hS.get (i := 0) rfl) rfl u27 rfl) (fun a hf => ?_)
   refine o0 hf fun a hf => ?_
   refine ov0 hf rfl rfl dd rfl (fun X => ex_idx (k := 6) (q := q) (B := LC) (p := LP) hf rfl (show _ = some (Value.slice (some ⟨LC, LP, none⟩) dt'.len dc2) from by rw [← hlb]; rfl) rfl hqy u27 einfo_flds) (fun a hf => ?_)
   refine ov0 hf rfl rfl dd rfl (fun X => ex_vfld (LP + q * 6 + 1) hf rfl rfl u78 rfl sz_val rfl) (fun a hf => ?_)
   refine ov1 hf rfl rfl dd rfl (fun X hS => ex_load_row _ (.tmp 112) _ _ rs _ rfl (hf.rel _ _ rfl) (field_val (rep_row_mono hs2 (hS.low.block LC hLC))) u29 rfl (by rw [hrs]; exact info_val)) (fun a hf => ?_)
   obtain ⟨cv, hcv⟩ : ∃ c, c = p.cmp r := ⟨_, rfl⟩
   refine ov2c hf rfl rfl dd rfl rfl fnOK_22 rfl (hn p (by have := Tr.sz_lst dt p (List.mem_of_getElem? hpq); omega) r _ (LowF w) (LowF w) ps rs (hvp.kept hX.low.size (fun k hk _ => hX.low.block k hk) (fun _ h _ => h)) (hvr.kept hX.low.size (fun k hk _ => hX.low.block k hk) (fun _ h _ => h))) ?_
   rintro e W ⟨rfl, hb⟩
   replace hX := hX.keep hb
   clear hb
   refine ⟨_, rfl, hX, fun a hf => ?_⟩
   rw [← hcv] at hf
   refine ov3v hf rfl rfl dd rfl (ex_vas hf rfl rfl) (fun a hf => ?_)
   refine wpOrd_nil ?_
   refine gc hf ?_
   intro a hf
   rcases Decidable.em (cv = 0) with hq4 | hq4
   ·
    refine nt hf hq4 fun a hf => ?_
    refine go hf ?_
    intro a hf
    refine sv_add ((q + 1 : Nat) : Int) hf rfl rfl (by rw [wrap_in (by omega)]; rfl) dd (fun a hf => ?_)
    refine go hf ?_
    intro a hf
    refine ⟨⟨q + 1, hf.sub (sub_cons rfl (sub_cons rfl (sub_cons rfl (sub_cons rfl (sub_nil))))), hX, by omega, fun i hi x y hx hy => ?_, fun i hi x y hx hy => ?_⟩, ?_⟩
    ·by_cases e : i = q
     ·subst e; rw [hmq] at hx; rw [hmr] at hy; obtain rfl := Option.some.inj hx; obtain rfl := Option.some.inj hy; exact hcn.symm.trans hq3
     ·exact hzn i (by omega) x y hx hy
    ·by_cases e : i = q
     ·subst e; rw [hpq] at hx; rw [hrq] at hy; obtain rfl := Option.some.inj hx; obtain rfl := Option.some.inj hy; exact hcv.symm.trans hq4
     ·exact hz i (by omega) x y hx hy
    have h5 : a.eval (.tmp 83) = .int .i64 ((q + 1 : Nat) : Int) := hf.rel 83 _ rfl
    rw [h5, hm83]; simp only [intOf, Int.toNat_natCast]; omega
   ·
    refine nf hf hq4 fun a hf => ?_
    refine go hf ?_
    intro a hf
    exact rt hf rfl rfl ⟨congrArg (fun z => Ending.returned (Value.int .i64 z)) (by rw [cmp_mk]; simp; rw [cmpF_at dt dt' q p r hdF hdF' (fun i hi x y hx hy => ?_) hz hpq hrq (hcv ▸ hq4)]; exact hcv; by_cases e : i = q; subst e; rw [hmq] at hx; rw [hmr] at hy; obtain rfl := Option.some.inj hx; obtain rfl := Option.some.inj hy; exact hcn.symm.trans hq3; exact hzn i (by omega) x y hx hy), hX.low⟩
  ·
   refine nf hf hq3 fun a hf => ?_
   refine go hf ?_
   intro a hf
   exact rt hf rfl rfl ⟨congrArg (fun z => Ending.returned (Value.int .i64 z)) (by rw [cmp_mk]; simp; rw [cmpF_atN dt dt' q mn mr hdF hdF' hzn hz hmq hmr (hcn ▸ hq3)]; exact hcn), hX.low⟩
 ·
  refine gc hf ?_
  intro a hf
  refine cf hf hgo fun a hf => ?_
  refine go hf ?_
  intro a hf
  refine wp_exit ?_
  simp only [Exit.inBlock, Exit.then, ↓reduceIte]
  refine gc hf ?_
  intro a hf
  refine sv_len hf rfl u27 dd (fun a hf => ?_)
  refine go hf ?_
  intro a hf
  refine sv_len hf rfl u27 dd (fun a hf => ?_)
  refine sv_call hf fnOK_43 rfl (Tryz.cmp_Compare_int ((dt.len : Nat) : Int) ((dt'.len : Nat) : Int) W) dd ?_
  rintro e W' ⟨rfl, hw⟩
  obtain rfl := hw
  refine ⟨_, rfl, fun a hf => ?_⟩
  refine go hf ?_
  intro a hf
  exact rt hf rfl rfl ⟨congrArg (fun z => Ending.returned (Value.int .i64 z)) (by rw [cmp_mk]; simp; exact (cmpF_end dt dt' hdF hdF' (fun i x y hx hy => hzn i (by have h1 := (List.getElem?_eq_some_iff.1 hx).1; have h2 := (List.getElem?_eq_some_iff.1 hy).1; have h3 := Tr.nms_len dt hdF; have h4 := Tr.nms_len dt' hdF'; omega) x y hx hy) (fun i x y hx hy => hz i (by have h1 := (List.getElem?_eq_some_iff.1 hx).1; have h2 := (List.getElem?_eq_some_iff.1 hy).1; have h3 : i < dt.len := h1; have h4 : i < dt'.len := h2; omega) x y hx hy)).symm), hX.low⟩
theorem cmp_Kk {n0 : Nat} (hn : CmpC n0) (k : Int) (hk : k ≠ 3 ∧ k ≠ 9 ∧ k ≠ 10 ∧ k ≠ 4 ∧ k ≠ 7 ∧ k ≠ 8 ∧ k ≠ 6 ∧ k ≠ 5) (n n' : Int) (s s' : ByteArray) (lt dt lt' dt' : Tr) (hsz0 : (Tr.mk k n s lt dt).sz ≤ n0 + 1) (w : World) (F G : Nat → Prop) (cs ds : List Value) (hv0 : VAt w F (Tr.mk k n s lt dt) cs) (hv1 : VAt w G (Tr.mk k n' s' lt' dt') ds) : Calls Tryz.prog 22 #[.agg cs.toArray, .agg ds.toArray] w fun e w' => e = .returned (.int .i64 ((Tr.mk k n s lt dt).cmp (Tr.mk k n' s' lt' dt'))) ∧ Below w.heap.size w w' := by
 have hv := hv0.low
 have hv2 := hv1.low
 obtain ⟨la, lc, da, dc, rfl, wk, wn, ws, hL, hD⟩ := hv.parts
 obtain ⟨la2, lc2, da2, dc2, rfl, wk2, wn2, ws2, hL2, hD2⟩ := hv2.parts
 obtain ⟨_, _, e1, hlL, hl1, hl2, _⟩ := id hL
 obtain ⟨_, _, rfl⟩ := Value.slice.inj e1
 obtain ⟨_, _, e2, hdF, hd1, hd2, _⟩ := id hD
 obtain ⟨_, _, rfl⟩ := Value.slice.inj e2
 obtain ⟨_, _, e3, hlL', hl1', hl2', _⟩ := id hL2
 obtain ⟨_, _, rfl⟩ := Value.slice.inj e3
 obtain ⟨_, _, e4, hdF', hd1', hd2', _⟩ := id hD2
 obtain ⟨_, _, rfl⟩ := Value.slice.inj e4
 unfold maxLen at hl2 hd2 hl2' hd2'
 simp only [Tr.sz] at hsz0
 refine cv2 Tryz.func22 rfl rfl rfl fun a hf => ?_
 have hX := Bx.start w
 refine gc hf ?_
 intro a hf
 refine sv_box hf hX rfl dd (fun a C1 W hC hf hX hA => ?_)
 clear hC hA
 refine sv_box hf hX rfl dd (fun a C2 W hC hf hX hA => ?_)
 clear hC hA
 refine go hf ?_
 intro a hf
 refine sv_cmp hf rfl rfl false (congrArg some (by rw [decide_eq_true rfl]; rfl)) dd (fun a hf => ?_)
 refine go hf ?_
 intro a hf
 refine wp_block ?_
 refine gc hf ?_
 intro a hf
 refine sv_cmp hf rfl rfl false (congrArg some (decide_eq_false hk.1)) dd (fun a hf => ?_)
 refine go hf ?_
 intro a hf
 refine sv_cmp hf rfl rfl false (congrArg some (decide_eq_false hk.2.1)) dd (fun a hf => ?_)
 refine go hf ?_
 intro a hf
 refine sv_cmp hf rfl rfl false (congrArg some (decide_eq_false hk.2.2.1)) dd (fun a hf => ?_)
 refine go hf ?_
 intro a hf
 refine sv_cmp hf rfl rfl false (congrArg some (decide_eq_false hk.2.2.2.1)) dd (fun a hf => ?_)
 refine go hf ?_
 intro a hf
 refine sv_cmp hf rfl rfl false (congrArg some (decide_eq_false hk.2.2.2.2.1)) dd (fun a hf => ?_)
 refine go hf ?_
 intro a hf
 refine sv_cmp hf rfl rfl false (congrArg some (decide_eq_false hk.2.2.2.2.2.1)) dd (fun a hf => ?_)
 refine go hf ?_
 intro a hf
 refine sv_cmp hf rfl rfl false (congrArg some (decide_eq_false hk.2.2.2.2.2.2.1)) dd (fun a hf => ?_)
 refine go hf ?_
 intro a hf
 refine sv_cmp hf rfl rfl false (congrArg some (decide_eq_false hk.2.2.2.2.2.2.2)) dd (fun a hf => ?_)
 refine go hf ?_
 intro a hf
 obtain ⟨y1, y2, y3, y4, y5, y6, y7, y8⟩ := hk
 exact rt hf rfl rfl ⟨congrArg (fun z => Ending.returned (Value.int .i64 z)) (by rw [cmp_mk]; simp [y1, y2, y3, y4, y5, y6, y7, y8]), hX.low⟩
theorem cmp_ne (k k' : Int) (hk : ¬ k = k') (n n' : Int) (s s' : ByteArray) (lt dt lt' dt' : Tr) (w : World) (F G : Nat → Prop) (cs ds : List Value) (hv0 : VAt w F (Tr.mk k n s lt dt) cs) (hv1 : VAt w G (Tr.mk k' n' s' lt' dt') ds) : Calls Tryz.prog 22 #[.agg cs.toArray, .agg ds.toArray] w fun e w' => e = .returned (.int .i64 ((Tr.mk k n s lt dt).cmp (Tr.mk k' n' s' lt' dt'))) ∧ Below w.heap.size w w' := by
 obtain ⟨la, lc, da, dc, rfl, wk, wn, ws, hL, hD⟩ := hv0.parts
 obtain ⟨la2, lc2, da2, dc2, rfl, wk2, wn2, ws2, hL2, hD2⟩ := hv1.parts
 refine cv2 Tryz.func22 rfl rfl rfl fun a hf => ?_
 have hX := Bx.start w
 refine gc hf ?_
 intro a hf
 refine sv_box hf hX rfl dd (fun a C1 W hC hf hX hA => ?_)
 clear hC hA
 refine sv_box hf hX rfl dd (fun a C2 W hC hf hX hA => ?_)
 clear hC hA
 refine go hf ?_
 intro a hf
 refine nf hf hk fun a hf => ?_
 refine go hf ?_
 intro a hf
 refine sv_call hf fnOK_43 rfl (Tryz.cmp_Compare_int k k' W) dd ?_
 rintro e W' ⟨rfl, hw⟩
 obtain rfl := hw
 refine ⟨_, rfl, fun a hf => ?_⟩
 refine go hf ?_
 intro a hf
 exact rt hf rfl rfl ⟨congrArg (fun z => Ending.returned (Value.int .i64 z)) (by rw [cmp_mk, if_pos hk]), hX.low⟩
theorem cmpC_all : ∀ n, CmpC n
 | 0, t, ht, _, _, _, _, _, _, hv, _ => by obtain ⟨k, m, s, l, d, rfl⟩ := hv.isV; simp only [Tr.sz] at ht; omega
 | n + 1, t, ht, b, w, F, G, cs, ds, hv, hv2 => by
  have hn := cmpC_all n
  obtain ⟨k, m, s, l, d, rfl⟩ := hv.isV
  obtain ⟨k', m', s', l', d', rfl⟩ := hv2.isV
  by_cases hk : k = k'
  ·subst hk
   by_cases h3 : k = 3
   ·subst h3; exact cmp_K3 hn m m' s s' l d l' d' ht w F G cs ds hv hv2
   by_cases h9 : k = 9
   ·subst h9; exact cmp_K9 hn m m' s s' l d l' d' ht w F G cs ds hv hv2
   by_cases h10 : k = 10
   ·subst h10; exact cmp_K10 hn m m' s s' l d l' d' ht w F G cs ds hv hv2
   by_cases h4 : k = 4
   ·subst h4; exact cmp_K4 hn m m' s s' l d l' d' ht w F G cs ds hv hv2
   by_cases h7 : k = 7
   ·subst h7; exact cmp_K7 hn m m' s s' l d l' d' ht w F G cs ds hv hv2
   by_cases h8 : k = 8
   ·subst h8; exact cmp_K8 hn m m' s s' l d l' d' ht w F G cs ds hv hv2
   by_cases h6 : k = 6
   ·subst h6; exact cmp_K6 hn m m' s s' l d l' d' ht w F G cs ds hv hv2
   by_cases h5 : k = 5
   ·subst h5; exact cmp_K5 hn m m' s s' l d l' d' ht w F G cs ds hv hv2
   exact cmp_Kk hn k ⟨h3, h9, h10, h4, h7, h8, h6, h5⟩ m m' s s' l d l' d' ht w F G cs ds hv hv2
  ·exact cmp_ne k k' hk m m' s s' l d l' d' w F G cs ds hv hv2
theorem Compare_any (a b : Tr) (w : World) (F G : Nat → Prop) (cs ds : List Value) (hv : VAt w F a cs) (hv2 : VAt w G b ds) : Calls Tryz.prog 22 #[.agg cs.toArray, .agg ds.toArray] w fun e w' => e = .returned (.int .i64 (a.cmp b)) ∧ Below w.heap.size w w' := cmpC_all a.sz a (Nat.le_refl _) b w F G cs ds hv hv2
abbrev RowB (B : Nat) (W : World) (v : Value) (l : List UInt8) : Prop := W.ownsRow B 5 1 v l.length (Lib.byteCells l)
theorem RowB.below {B : Nat} {W W' : World} {v : Value} {l : List UInt8} (h : RowB B W v l) (hb : Below W.heap.size W W') : RowB B W' v l := by
 obtain ⟨h1, h2⟩ := h
 refine ⟨h1, ?_⟩
 rcases h2 with h2 | ⟨g, cap, cur, e, h2, h3, h4⟩
 ·exact .inl h2
 ·subst e
  exact .inr ⟨g, cap, cur, rfl, h2, (hb.block g (Array.getElem?_eq_some_iff.1 h3).1).trans h3, h4⟩
theorem RowB.keep {B : Nat} {W W' : World} {v : Value} {l : List UInt8} (h : RowB B W v l) (hk : ∀ k, v.ownBlock = some k → W'.heap[k]? = W.heap[k]?) : RowB B W' v l := by
 obtain ⟨h1, h2⟩ := h
 refine ⟨h1, ?_⟩
 rcases h2 with h2 | ⟨g, cap, cur, e, h2, h3, h4⟩
 ·exact .inl h2
 ·subst e
  exact .inr ⟨g, cap, cur, rfl, h2, (hk g rfl).trans h3, h4⟩
theorem RowB.lt {B : Nat} {W : World} {v : Value} {l : List UInt8} (h : RowB B W v l) : ∀ k, v.ownBlock = some k → B ≤ k ∧ k < W.heap.size := World.ownsRow.lt h
theorem RowB.nil (B : Nat) (W : World) : RowB B W (.slice none 0 0) [] := World.ownsRow_nil _ _ _ _
theorem RowB.sl {B : Nat} {W : World} {v : Value} {l : List UInt8} (h : RowB B W v l) : ∃ a c, v = .slice a l.length c := by
 rcases h.2 with ⟨h1, h2⟩ | ⟨g, cap, cur, h1, _⟩
 ·exact ⟨none, 0, by rw [h1, h2]⟩
 ·exact ⟨_, _, h1⟩
theorem bc_app (a b : List UInt8) : Lib.byteCells (a ++ b) = Lib.byteCells a ++ Lib.byteCells b := by simp [Lib.byteCells]
theorem bc_len (a : List UInt8) : (Lib.byteCells a).length = a.length := by simp [Lib.byteCells]
theorem bc_ones (a : List UInt8) : ∀ u ∈ Lib.byteCells a, u.oneCell' = true := by
 intro u hu
 obtain ⟨b, _, rfl⟩ := List.mem_map.1 hu
 rfl
section
variable {w : World} {b : Base} {lx : List (Nat × List Value)} {N : Nat} {env : VEnv} {a : Act}
theorem ex_bs8 {o : Oper} {ρ : Operand → Value} {p : Operand} {m : Int} (ho : o.op = .buildSlice 53 1 #[(0, p)]) (hp : ρ p = .int .u8 m) : (execOp ρ o).run Tryz.prog w = .ok (.value (.slice (some ⟨w.heap.size, 0, none⟩) 1 1)) (w.alloc (.cells (List.toArray [.int .u8 m]) 5)) := by
 obtain ⟨i0, hi', hz0, hz1, hz2⟩ := info_parts infoU8
 unfold execOp
 simp only [ho, List.map_toArray, List.map_cons, List.map_nil, hp, Sem.run_bind]
 rw [run_buildSlice (P := Tryz.prog) w 53 5 1 _ (List.toArray [.int .u8 m]) i0 (.int .u8 0) Tryz.underlying53 hi' hz0 (by rw [hz1]; decide) (by rw [hz1]; decide) (by
  rw [hz1]
  first | kernel_rfl | simp [Instr.fill, Value.cells])]
 simp only [Result.andThen_ok, Sem.run_pure]
theorem ex_bs82 {o : Oper} {ρ : Operand → Value} {p q : Operand} {m n : Int} (ho : o.op = .buildSlice 53 2 #[(0, p), (1, q)]) (hp : ρ p = .int .u8 m) (hq : ρ q = .int .u8 n) : (execOp ρ o).run Tryz.prog w = .ok (.value (.slice (some ⟨w.heap.size, 0, none⟩) 2 2)) (w.alloc (.cells (List.toArray [.int .u8 m, .int .u8 n]) 5)) := by
 obtain ⟨i0, hi', hz0, hz1, hz2⟩ := info_parts infoU8
 unfold execOp
 simp only [ho, List.map_toArray, List.map_cons, List.map_nil, hp, hq, Sem.run_bind]
 rw [run_buildSlice (P := Tryz.prog) w 53 5 2 _ (List.toArray [.int .u8 m, .int .u8 n]) i0 (.int .u8 0) Tryz.underlying53 hi' hz0 (by rw [hz1]; decide) (by rw [hz1]; decide) (by
  rw [hz1]
  first | kernel_rfl | simp [Instr.fill, Value.cells])]
 simp only [Result.andThen_ok, Sem.run_pure]
theorem ex_app8 {o : Oper} {ρ : Operand → Value} {p q : Operand} {B : Nat} {v : Value} {l bs : List UInt8} {ad : Addr} {m c : Nat} (ho : o.op = .call { callee := .builtin .append, args := #[p, q], argTypes := #[53, 53] }) (hp : ρ p = v) (hq : ρ q = .slice (some ad) m c) (hm : bs.length = m) (hR : RowB B w v l) (hnews : ∀ (j : Nat) (u : Value), (Lib.byteCells bs)[j]? = some u → w.cell? (ad.add j) = some u) (h63 : l.length + m ≤ 1000000000) (hB : B ≤ w.heap.size) :
  ∃ v' w', (execOp ρ o).run Tryz.prog w = .ok (.value v') w' ∧ RowB B w' v' (l ++ bs) ∧ w.grownBy w' v.ownBlock ∧ (∀ k, v'.ownBlock = some k → v.ownBlock = some k ∨ w.heap.size ≤ k) := by
 subst hm
 obtain ⟨v', w', hr, h2, h3, h4, _⟩ := ex_apps (P := Tryz.prog) ho hp hq Tryz.underlying53 infoU8 rfl (by decide) hR (by rw [bc_len, Nat.mul_one]) hnews (bc_ones bs) (by unfold maxLen; omega) (by omega) hB
 exact ⟨v', w', hr, by show World.ownsRow _ _ _ _ _ _ _; rw [bc_app, List.length_append]; exact h2, h3, h4⟩
theorem ex_app8s {o : Oper} {ρ : Operand → Value} {p q : Operand} {B : Nat} {v : Value} {l : List UInt8} {s : ByteArray} (ho : o.op = .call { callee := .builtin .append, args := #[p, q], argTypes := #[53, 9] }) (hp : ρ p = v) (hq : ρ q = .string s) (hR : RowB B w v l) (h63 : l.length + s.size ≤ 1000000000) (hB : B ≤ w.heap.size) :
  ∃ v' w', (execOp ρ o).run Tryz.prog w = .ok (.value v') w' ∧ RowB B w' v' (l ++ s.data.toList) ∧ w.grownBy w' v.ownBlock ∧ (∀ k, v'.ownBlock = some k → v.ownBlock = some k ∨ w.heap.size ≤ k) := by
 obtain ⟨i0, hi', hz0, hz1, hz2⟩ := info_parts infoU8
 obtain ⟨v', w', hr, h2, h3, h5⟩ : ∃ v' w', (Builtin.append_ #[53, 9] o.type #[v, .string s]).run Tryz.prog w = .ok v' w' ∧ w'.ownsRow B 5 1 v' (l.length + s.size) (Lib.byteCells l ++ Lib.strCells s) ∧ w.grownBy w' v.ownBlock ∧ (∀ k, v'.ownBlock = some k → v.ownBlock = some k ∨ w.heap.size ≤ k) := by
  have key := fun (B : Nat) (hR : RowB B w v l) (hB : B ≤ w.heap.size) => Lib.run_append_own_string (P := Tryz.prog) w B 53 9 o.type 5 i0 Tryz.underlying53 Tryz.underlying9 hi' hz0 hz1 hz2 v l.length (Lib.byteCells l) hR s (by unfold maxLen; omega) (by omega) hB
  obtain ⟨v', w', hr, h2, h3, _⟩ := key B hR hB
  refine ⟨v', w', hr, h2, h3, fun k hk => ?_⟩
  rcases hR.2 with ⟨rfl, h0⟩ | ⟨g, cap, cur, rfl, hbg, hg, hnc, hcm, hcs, htake⟩
  ·obtain ⟨v2, w2, hr2, h22, _⟩ := key w.heap.size ⟨hR.1, .inl ⟨rfl, h0⟩⟩ (Nat.le_refl _)
   rw [hr] at hr2
   injection hr2 with e1 e2
   subst e1
   exact .inr (World.ownsRow.lt h22 k hk).1
  ·by_cases hroom : l.length + s.size ≤ cap
   ·have hr2 := Lib.run_append_room_string (P := Tryz.prog) w 53 9 o.type 5 i0 Tryz.underlying53 Tryz.underlying9 hi' hz1 g l.length cap cur hg s hroom (by omega)
    rw [hr] at hr2
    injection hr2 with e1 e2
    subst e1
    exact .inl hk
   ·have holds : ∀ j u, (Lib.byteCells l)[j]? = some u → w.cell? ((⟨g, 0, none⟩ : Addr).add j) = some u := World.ownsRow.cells (g := g) hR rfl
    have hcl : cap ≤ 9223372036854775807 := by unfold maxLen at hcm; omega
    have hr2 := Lib.run_append_grow_string (P := Tryz.prog) w 53 9 o.type 5 i0 (.int .u8 0) Tryz.underlying53 Tryz.underlying9 hi' hz0 ⟨g, 0, none⟩ l.length cap (Lib.byteCells l) (by rw [hz1, bc_len, Nat.mul_one]) holds s (by omega) (by omega) (by rw [hz2]; exact growslice_fits (by omega) (by omega))
    rw [hr] at hr2
    injection hr2 with e1 e2
    subst e1
    exact .inr (Nat.le_of_eq (Option.some.inj hk))
 refine ⟨v', w', ?_, ?_, h3, h5⟩
 ·unfold execOp
  simp only [ho, resolve, invoke, builtin, Sem.run_bind, Sem.run_pure, Result.andThen_ok, List.map_toArray, List.map_cons, List.map_nil, hp, hq, hr]
 ·show World.ownsRow _ _ _ _ _ _ _
  rw [bc_app, List.length_append, size_list]
  exact h2
end
abbrev Src (v0 v : Value) (w : World) : Prop := ∀ k, v.ownBlock = some k → v0.ownBlock = some k ∨ w.heap.size ≤ k
theorem Src.refl (v : Value) (w : World) : Src v v w := fun _ h => .inl h
theorem Src.trans {v0 v v' : Value} {w W : World} (h : Src v0 v w) (h' : Src v v' W) (hs : w.heap.size ≤ W.heap.size) : Src v0 v' w := fun k hk => by
 rcases h' k hk with h1 | h1
 ·exact h k h1
 ·exact .inr (Nat.le_trans hs h1)
structure RowW (w : World) (v0 : Value) (W : World) (v : Value) (l : List UInt8) : Prop where
 row : RowB 0 W v l
 src : Src v0 v w
 ge : w.heap.size ≤ W.heap.size
theorem RowW.below {w W W' : World} {v0 v : Value} {l : List UInt8} (h : RowW w v0 W v l) (hb : Below W.heap.size W W') : RowW w v0 W' v l := ⟨h.row.below hb, h.src, Nat.le_trans h.ge hb.size⟩
theorem RowW.only {w W W' : World} {v0 v : Value} {l : List UInt8} {c : Nat} (h : RowW w v0 W v l) (ho : Only W W' c) (hne : ∀ k, v.ownBlock = some k → k ≠ c) : RowW w v0 W' v l := ⟨h.row.keep (fun k hk => ho.heap k (hne k hk)), h.src, Nat.le_trans h.ge (Nat.le_of_eq ho.size.symm)⟩
theorem RowW.next {w W W' : World} {v0 v v' : Value} {l l' : List UInt8} (h : RowW w v0 W v l) (hr : RowB 0 W' v' l') (hg : W.grownBy W' v.ownBlock) (hs : Src v v' W) : RowW w v0 W' v' l' := ⟨hr, h.src.trans hs h.ge, Nat.le_trans h.ge hg.size⟩
theorem RowW.start {w : World} {v : Value} {l : List UInt8} (h : RowB 0 w v l) : RowW w v w v l := ⟨h, Src.refl v w, Nat.le_refl _⟩
section
variable {w : World} {b : Base} {lx : List (Nat × List Value)} {N : Nat} {env : VEnv} {a : Act} {ops : Array Oper} {rest : List Oper} {Q : Exit → Act → World → Prop} {d y x z : Nat} {ps : String} {af : Array Edge} {w0 : World} {v0 v : Value} {l : List UInt8} {p q : Operand}
theorem grow_bx {w' : World} (hB : Bx b lx w) (hR : RowW w0 v0 w v l) (hbw : b.w.heap.size = 0) (hbs : ∀ p ∈ b.bs, p.1.heap.size ≤ w0.heap.size ∧ ∀ k, v0.ownBlock = some k → ¬ p.2 k) (hne : ∀ k, v.ownBlock = some k → ∀ x ∈ lx, x.1 ≠ k) (hg : w.grownBy w' v.ownBlock) : Bx b lx w' :=
 hB.grown hg (fun k hk => ⟨by omega, hne k hk, fun p hp hlt => by
  rcases hR.src k hk with h1 | h1
  ·exact (hbs p hp).2 k h1
  ·have := (hbs p hp).1
   omega⟩)
theorem sv_bs8 {m : Int} (hf : FrV N env a) (hB : Bx b lx w) (hx : ev env p = some (.int .u8 m)) (hd : d < N) (h : ∀ a' C w', C = w.heap.size → FrV N ((d, .slice (some ⟨C, 0, none⟩) 1 1) :: env) a' → Bx b ((C, [.int .u8 m]) :: lx) w' → Below w.heap.size w w' → wpList Tryz.prog ops Q rest a' w') : wpList Tryz.prog ops Q ({ dst := some d, op := .buildSlice 53 1 #[(0, p)], type := y, pos := ps, after := af, guard := none } :: rest) a w :=
 wpList_ok rfl (ex_bs8 rfl (hf.ev hx)) (h _ _ _ rfl (hf.put hd _) (hB.new [.int .u8 m] _) ((Below.refl _ _).alloc (Nat.le_refl _) _))
theorem sv_bs82 {m n : Int} (hf : FrV N env a) (hB : Bx b lx w) (hx : ev env p = some (.int .u8 m)) (hz : ev env q = some (.int .u8 n)) (hd : d < N) (h : ∀ a' C w', C = w.heap.size → FrV N ((d, .slice (some ⟨C, 0, none⟩) 2 2) :: env) a' → Bx b ((C, [.int .u8 m, .int .u8 n]) :: lx) w' → Below w.heap.size w w' → wpList Tryz.prog ops Q rest a' w') : wpList Tryz.prog ops Q ({ dst := some d, op := .buildSlice 53 2 #[(0, p), (1, q)], type := y, pos := ps, after := af, guard := none } :: rest) a w :=
 wpList_ok rfl (ex_bs82 rfl (hf.ev hx) (hf.ev hz)) (h _ _ _ rfl (hf.put hd _) (hB.new [.int .u8 m, .int .u8 n] _) ((Below.refl _ _).alloc (Nat.le_refl _) _))
theorem sv_app8 {G : Nat} {bs : List UInt8} {cap : Nat} (hf : FrV N env a) (hB : Bx b ((G, Lib.byteCells bs) :: lx) w) (hx : ev env p = some v) (hz : ev env q = some (.slice (some ⟨G, 0, none⟩) bs.length cap)) (hR : RowW w0 v0 w v l) (hbw : b.w.heap.size = 0) (hbs : ∀ p ∈ b.bs, p.1.heap.size ≤ w0.heap.size ∧ ∀ k, v0.ownBlock = some k → ¬ p.2 k) (hne : ∀ k, v.ownBlock = some k → ∀ x ∈ lx, x.1 ≠ k) (h63 : l.length + bs.length ≤ 1000000000) (hd : d < N)
  (h : ∀ a' v' w', FrV N ((d, v') :: env) a' → Bx b lx w' → RowW w0 v0 w' v' (l ++ bs) → w.grownBy w' v.ownBlock → Src v v' w → wpList Tryz.prog ops Q rest a' w') : wpList Tryz.prog ops Q ({ dst := some d, op := .call { callee := .builtin .append, args := #[p, q], argTypes := #[53, 53] }, type := y, pos := ps, after := af, guard := none } :: rest) a w := by
 have hG := hB.get (i := 0) rfl
 obtain ⟨v', w', hr, h2, h3, h4⟩ := ex_app8 (o := { dst := some d, op := .call { callee := .builtin .append, args := #[p, q], argTypes := #[53, 53] }, type := y, pos := ps, after := af, guard := none }) rfl (hf.ev hx) (hf.ev hz) rfl hR.row (fun j u hu => by rw [addr_add', Nat.zero_add]; exact hG.cell j u hu) h63 (Nat.zero_le _)
 exact wpList_ok rfl hr (h _ v' w' (hf.put hd _) (grow_bx hB.sub hR hbw hbs hne h3) (hR.next h2 h3 h4) h3 h4)
theorem sv_app8s {s : ByteArray} (hf : FrV N env a) (hB : Bx b lx w) (hx : ev env p = some v) (hz : ev env q = some (.string s)) (hR : RowW w0 v0 w v l) (hbw : b.w.heap.size = 0) (hbs : ∀ p ∈ b.bs, p.1.heap.size ≤ w0.heap.size ∧ ∀ k, v0.ownBlock = some k → ¬ p.2 k) (hne : ∀ k, v.ownBlock = some k → ∀ x ∈ lx, x.1 ≠ k) (h63 : l.length + s.size ≤ 1000000000) (hd : d < N)
  (h : ∀ a' v' w', FrV N ((d, v') :: env) a' → Bx b lx w' → RowW w0 v0 w' v' (l ++ s.data.toList) → w.grownBy w' v.ownBlock → Src v v' w → wpList Tryz.prog ops Q rest a' w') : wpList Tryz.prog ops Q ({ dst := some d, op := .call { callee := .builtin .append, args := #[p, q], argTypes := #[53, 9] }, type := y, pos := ps, after := af, guard := none } :: rest) a w := by
 obtain ⟨v', w', hr, h2, h3, h4⟩ := ex_app8s (o := { dst := some d, op := .call { callee := .builtin .append, args := #[p, q], argTypes := #[53, 9] }, type := y, pos := ps, after := af, guard := none }) rfl (hf.ev hx) (hf.ev hz) hR.row h63 (Nat.zero_le _)
 exact wpList_ok rfl hr (h _ v' w' (hf.put hd _) (grow_bx hB hR hbw hbs hne h3) (hR.next h2 h3 h4) h3 h4)
end
section
variable {ops : Array Oper} {Q : Exit → Act → World → Prop} {N : Nat} {env : VEnv} {a : Act} {w : World} {S : World → Prop} {R : Act → World → Prop} {i d : Nat} {rest : List (Nat × Nat)} {oi : Oper} {b : Base} {lx : List (Nat × List Value)} {w0 : World} {v0 v : Value} {l : List UInt8} {p q : Operand}
theorem ov2_bs8 {m : Int} (hf : FrV N env a) (hB : Bx b lx w) (hi : ops[i]? = some oi) (hd : oi.dst = some d) (hdN : d < N) (hw : Region.wanted oi (yielded ops a.tmps) = true) (ho : oi.op = .buildSlice 53 1 #[(0, p)]) (hx : ev env p = some (.int .u8 m)) (hS : ∀ w', Bx b lx w' → S w') (h : ∀ a' C w', C = w.heap.size → FrV N ((d, .slice (some ⟨C, 0, none⟩) 1 1) :: env) a' → Bx b ((C, [.int .u8 m]) :: lx) w' → Below w.heap.size w w' → wpOrd Tryz.prog ops Q S R rest a' w') : wpOrd Tryz.prog ops Q S R ((i, 2) :: rest) a w :=
 have hn := hB.new [.int .u8 m] 5
 ov2w hf hi hd hdN hw (ex_bs8 ho (hf.ev hx)) (hS _ hn.sub) (fun a' hf' => h a' _ _ rfl hf' hn ((Below.refl _ _).alloc (Nat.le_refl _) _))
theorem ov2_app8 {G : Nat} {bs : List UInt8} {cap : Nat} (hf : FrV N env a) (hB : Bx b ((G, Lib.byteCells bs) :: lx) w) (hi : ops[i]? = some oi) (hd : oi.dst = some d) (hdN : d < N) (hw : Region.wanted oi (yielded ops a.tmps) = true) (ho : oi.op = .call { callee := .builtin .append, args := #[p, q], argTypes := #[53, 53] }) (hx : ev env p = some v) (hz : ev env q = some (.slice (some ⟨G, 0, none⟩) bs.length cap)) (hR : RowW w0 v0 w v l) (hbw : b.w.heap.size = 0) (hbs : ∀ p ∈ b.bs, p.1.heap.size ≤ w0.heap.size ∧ ∀ k, v0.ownBlock = some k → ¬ p.2 k) (hne : ∀ k, v.ownBlock = some k → ∀ x ∈ lx, x.1 ≠ k) (h63 : l.length + bs.length ≤ 1000000000) (hS : ∀ w', Bx b lx w' → S w')
  (h : ∀ a' v' w', FrV N ((d, v') :: env) a' → Bx b lx w' → RowW w0 v0 w' v' (l ++ bs) → w.grownBy w' v.ownBlock → Src v v' w → wpOrd Tryz.prog ops Q S R rest a' w') : wpOrd Tryz.prog ops Q S R ((i, 2) :: rest) a w := by
 have hG := hB.get (i := 0) rfl
 obtain ⟨v', w', hr, h2, h3, h4⟩ := ex_app8 ho (hf.ev hx) (hf.ev hz) rfl hR.row (fun j u hu => by rw [addr_add', Nat.zero_add]; exact hG.cell j u hu) h63 (Nat.zero_le _)
 have hB' := grow_bx hB.sub hR hbw hbs hne h3
 exact ov2w hf hi hd hdN hw hr (hS _ hB') (fun a' hf' => h a' v' w' hf' hB' (hR.next h2 h3 h4) h3 h4)
end
theorem toNat_of (m : Nat) : (UInt8.ofNat m).toNat = m % 256 := by simp [UInt8.toNat_ofNat']
theorem kB_nat (k : Int) : (((Tr.kB k).toNat : Nat) : Int) = k % 256 := by
 unfold Tr.kB
 rw [toNat_of]
 have h1 := Int.emod_nonneg k (show (256 : Int) ≠ 0 by decide)
 have h2 := Int.emod_lt_of_pos k (show (0 : Int) < 256 by decide)
 omega
section
variable {w : World} {N : Nat} {env : VEnv} {a : Act} {o : Oper} {x z : Operand}
theorem ex_cvu8 {k : Int} (hf : FrV N env a) (ho : o.op = .convert 3 5 x) (hx : ev env x = some (.int .i64 k)) : (execOp a.eval o).run Tryz.prog w = .ok (.value (.int .u8 (((Tr.kB k).toNat : Nat) : Int))) w := by
 rw [kB_nat]
 unfold execOp
 simp only [ho, hf.ev hx]
 simp [go_sem, u3, Tryz.underlying5, IntKind.wrap_u8]
theorem ex_cvu64 {k : Int} (hf : FrV N env a) (ho : o.op = .convert 3 76 x) (hx : ev env x = some (.int .i64 k)) : (execOp a.eval o).run Tryz.prog w = .ok (.value (.int .u64 (k % 18446744073709551616))) w := by
 unfold execOp
 simp only [ho, hf.ev hx]
 simp [go_sem, u3, Tryz.underlying76, IntKind.wrap_u64]
theorem ex_cv648 {k : Int} (hf : FrV N env a) (ho : o.op = .convert 76 5 x) (hx : ev env x = some (.int .u64 k)) : (execOp a.eval o).run Tryz.prog w = .ok (.value (.int .u8 (((Tr.kB k).toNat : Nat) : Int))) w := by
 rw [kB_nat]
 unfold execOp
 simp only [ho, hf.ev hx]
 simp [go_sem, Tryz.underlying76, Tryz.underlying5, IntKind.wrap_u8]
theorem xor63 (m : Nat) (h : m < 18446744073709551616) : m ^^^ 9223372036854775808 = if m < 9223372036854775808 then m + 9223372036854775808 else m - 9223372036854775808 := by
 have e : (9223372036854775808 : Nat) = 2 ^ 63 := by decide
 have e2 : (18446744073709551616 : Nat) = 2 ^ 64 := by decide
 split
 ·rename_i h1
  rw [Nat.add_comm, e, Nat.xor_comm]
  apply Nat.eq_of_testBit_eq
  intro i
  rw [Nat.testBit_xor, Nat.testBit_two_pow]
  rw [e] at h1
  rcases Nat.lt_trichotomy i 63 with hi | hi | hi
  ·rw [Nat.testBit_two_pow_add_gt hi]
   simp [show ¬ 63 = i by omega]
  ·subst hi
   rw [Nat.testBit_two_pow_add_eq, Nat.testBit_lt_two_pow h1]
   simp
  ·have : m.testBit i = false := Nat.testBit_lt_two_pow (Nat.lt_of_lt_of_le h1 (Nat.pow_le_pow_right (by decide) (by omega)))
   have h3 : (2 ^ 63 + m).testBit i = false := Nat.testBit_lt_two_pow (Nat.lt_of_lt_of_le (show 2 ^ 63 + m < 2 ^ 64 by omega) (Nat.pow_le_pow_right (by decide) (by omega)))
   rw [this, h3]
   simp [show ¬ 63 = i by omega]
 ·rename_i h1
  obtain ⟨c, rfl⟩ : ∃ c, m = 9223372036854775808 + c := ⟨m - 9223372036854775808, by omega⟩
  rw [Nat.add_sub_cancel_left, e]
  have hc : c < 2 ^ 63 := by omega
  apply Nat.eq_of_testBit_eq
  intro i
  rw [Nat.testBit_xor, Nat.testBit_two_pow]
  rcases Nat.lt_trichotomy i 63 with hi | hi | hi
  ·rw [Nat.testBit_two_pow_add_gt hi]
   simp [show ¬ 63 = i by omega]
  ·subst hi
   rw [Nat.testBit_two_pow_add_eq, Nat.testBit_lt_two_pow hc]
   simp
  ·have : c.testBit i = false := Nat.testBit_lt_two_pow (Nat.lt_of_lt_of_le hc (Nat.pow_le_pow_right (by decide) (by omega)))
   have h3 : (2 ^ 63 + c).testBit i = false := Nat.testBit_lt_two_pow (Nat.lt_of_lt_of_le (show 2 ^ 63 + c < 2 ^ 64 by omega) (Nat.pow_le_pow_right (by decide) (by omega)))
   rw [this, h3]
   simp [show ¬ 63 = i by omega]
abbrev un (n : Int) : Int := n + 9223372036854775808
theorem ex_xor63 {n : Int} (hf : FrV N env a) (hn : wfI n) {xT zT : TypeId} (ho : o.op = .binOp .xor xT x z zT) (hx : ev env x = some (.int .u64 (n % 18446744073709551616))) (hz : ev env z = some (.int .u64 9223372036854775808)) : (execOp a.eval o).run Tryz.prog w = .ok (.value (.int .u64 (un n))) w := by
 have hr : -9223372036854775808 ≤ n ∧ n ≤ 9223372036854775807 := by
  unfold wfI Lit.wf at hn
  simp only [Bool.and_eq_true, decide_eq_true_eq] at hn
  exact hn
 have h0 := Int.emod_nonneg n (show (18446744073709551616 : Int) ≠ 0 by decide)
 have h1 := Int.emod_lt_of_pos n (show (0 : Int) < 18446744073709551616 by decide)
 obtain ⟨m, hm⟩ : ∃ m : Nat, n % 18446744073709551616 = m := ⟨(n % 18446744073709551616).toNat, by omega⟩
 have key : bits .xor .u64 (n % 18446744073709551616) 9223372036854775808 = un n := by
  rw [hm]
  rw [show (9223372036854775808 : Int) = ((9223372036854775808 : Nat) : Int) from rfl, u64_xor_nat _ _ (by omega) (by omega), xor63 m (by omega)]
  show _ = n + 9223372036854775808
  split <;> omega
 unfold execOp
 simp only [ho, hf.ev hx, hf.ev hz]
 simp [go_sem, key]
theorem ex_shr64 {u sh : Nat} (hf : FrV N env a) (hu : u < 18446744073709551616) (hs : sh < 64) {xT zT : TypeId} (ho : o.op = .binOp .shr xT x z zT) (hx : ev env x = some (.int .u64 (u : Int))) (hz : ev env z = some (.int .i64 (sh : Int))) : (execOp a.eval o).run Tryz.prog w = .ok (.value (.int .u64 ((u / 2 ^ sh : Nat) : Int))) w := by
 unfold execOp
 simp only [ho, hf.ev hx, hf.ev hz]
 simp [go_sem]
end
end Go.Proofs.YtilopjlcgmedgaaGreatDoor
