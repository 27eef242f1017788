import Derived.Test.YtilopjlcgmedgaaGreatDoorOd5
import Derived.Defers
import Derived.Recover
import Derived.RegionTactic
import Derived.Laws.AppendOwn
import Derived.Deep.QuietTactic
import Derived.BigQuiet
import Derived.WalkSpells
namespace Go.Proofs.YtilopjlcgmedgaaGreatDoor
open Go.ChangeShapes Go.WideShapes Go.ChangeAt Go.RowKit Go.ChangeMaps Go.Joins Go.Deep
set_option linter.unusedVariables false
set_option linter.unusedSimpArgs false
set_option maxRecDepth 100000
theorem lst_nod : ∀ l : Tr, wfT l → l.isL = true → l.len ≤ l.nod
 | .nil, _, _ => Nat.le_refl _
 | .lcons t r, hw, h => by
  have h1 := lst_nod r hw.2.2 h
  have h2 : 1 ≤ t.nod := by
   have := hw.1
   cases t with
   | mk k n s l d => exact Nat.le_add_right _ _
   | nil => cases this
   | lcons _ _ => cases this
   | fcons _ _ _ => cases this
  show r.lst.length + 1 ≤ t.nod + r.nod
  have h3 : r.lst.length ≤ r.nod := h1
  omega
 | .mk _ _ _ _ _, _, h => by cases h
 | .fcons _ _ _, _, h => by cases h
theorem rc_K1 (w : World) (R : Nat) (s : ByteArray) (p nd : Nat) (lv : Int) (post : List UInt8) (hs9 : s.size ≤ 1000000000) (hd1 : 1 ≤ lv) (hd2 : lv + (((Tr.mk 1 0 ⟨#[]⟩ .nil .nil).dep : Nat) : Int) ≤ 17) (hnd : nd + (Tr.mk 1 0 ⟨#[]⟩ .nil .nil).nod ≤ 1024) (hU : U8 w) (hR1 : 1 < R) (hp : s.data.toList.drop p = (Tr.mk 1 0 ⟨#[]⟩ .nil .nil).cb ++ post) (hRb : Box w R [.string s, .int .i64 (p : Int), .int .i64 (nd : Int)]) : Calls Tryz.prog 83 #[.pointer (some ⟨R, 0, none⟩), .int .i64 lv] w fun e w' => ∃ cs, e = .returned (.agg cs.toArray) ∧ VAt w' (fun k => w.heap.size ≤ k) (Tr.mk 1 0 ⟨#[]⟩ .nil .nil) cs ∧ Box w' R [.string s, .int .i64 ((p + (Tr.mk 1 0 ⟨#[]⟩ .nil .nil).cb.length : Nat) : Int), .int .i64 ((nd + (Tr.mk 1 0 ⟨#[]⟩ .nil .nil).nod : Nat) : Int)] ∧ w.grownBy w' (some R) := by
 have hRw := hRb.lt
 have hdp : lv ≤ 16 := by have : 1 ≤ (Tr.mk 1 0 ⟨#[]⟩ .nil .nil).dep := Nat.le_add_right _ _; omega
 have hnod : (Tr.mk 1 0 ⟨#[]⟩ .nil .nil).nod = 1 := rfl
 rw [hnod] at hnd ⊢
 have hcb : (Tr.mk 1 0 ⟨#[]⟩ .nil .nil).cb = [Tr.kB 1] := rfl
 rw [hcb] at hp ⊢
 rw [List.cons_append] at hp
 obtain ⟨hb0, hp0⟩ := drop_one hp
 have hk0 : (((Tr.kB 1).toNat : Nat) : Int) = 1 := by decide
 have hps : p < s.size := by have := (List.getElem?_eq_some_iff.1 hb0).1; rwa [size_list] at this
 have htk1 : (s.data.toList.drop p).take 1 = [Tr.kB 1] := by rw [hp]; rfl
 refine cv2 Tryz.func83 rfl rfl rfl fun a hf => ?_
 have hX := Bx.start w
 clear hX
 have hX := Bx.bare w (fun k => k ≠ R)
 refine gc hf ?_
 intro a hf
 refine sv_alloc (zs := [.int .i64 0, .int .i64 0, .string ⟨#[]⟩, .slice none 0 0, .slice none 0 0]) hf hX zero_val dd (fun a C1 W hC hf hX hA => ?_)
 have hneC1 : R ≠ C1 := fun e => by have := hRb.lt; omega
 have h1C1 := Nat.lt_of_lt_of_eq hU.2 hC.symm
 replace hRb := hRb.keep hA
 replace hU := hU.below hA
 clear hC hA
 refine go hf ?_
 intro a hf
 refine ct hf hdp fun a hf => ?_
 refine go hf ?_
 intro a hf
 refine sv_fld hf rfl Tryz.underlying145 rfl sz_int (2) rfl dd (fun a hf => ?_)
 refine go hf ?_
 intro a hf
 refine sv_lm hf rfl (hRb.cell 2 _ rfl) u3 rfl dd (fun a hf => ?_)
 refine go hf ?_
 intro a hf
 refine sv_cmp hf rfl rfl true (congrArg some (decide_eq_true (by omega))) dd (fun a hf => ?_)
 refine go hf ?_
 intro a hf
 refine sv_call hf fnOK_96 rfl (need_any _ _) dd ?_
 rintro e W' ⟨rfl, hw⟩
 subst hw
 refine ⟨_, rfl, fun a hf => ?_⟩
 refine go hf ?_
 intro a hf
 replace hX := hX.add hRb (Nat.zero_le _) (fun x hx e => by simp only [List.mem_cons, List.not_mem_nil, or_false] at hx; rcases hx with rfl; exact hneC1 e.symm) (fun p hp _ => by rw [List.mem_singleton.1 hp]; exact fun h => h rfl)
 clear hRb
 first | refine gc hf ?_ | refine go hf ?_
 intro a hf
 refine sv_fld hf rfl Tryz.underlying145 rfl sz_int (2) rfl dd (fun a hf => ?_)
 refine go hf ?_
 intro a hf
 refine sv_add ((nd + 1 : Nat) : Int) hf rfl rfl (by rw [wrap_in (by omega)]; rfl) dd (fun a hf => ?_)
 refine go hf ?_
 intro a hf
 refine sv_fld hf rfl Tryz.underlying145 rfl sz_int (2) rfl dd (fun a hf => ?_)
 refine sv_sc (cs' := [.string s, .int .i64 (p : Int), .int .i64 ((nd + 1 : Nat) : Int)]) hf hX rfl rfl 0 rfl dd rfl info_int rfl [(R, [.string s, .int .i64 (p : Int), .int .i64 ((nd + 1 : Nat) : Int)]), (C1, [.int .i64 0, .int .i64 0, .string ⟨#[]⟩, .slice none 0 0, .slice none 0 0])] rfl (fun W hX hO => ?_)
 replace hU := hU.kept (Nat.le_of_eq hO.size.symm) (hO.heap 0 (by omega)) (hO.heap 1 (by omega))
 clear hO
 refine go hf ?_
 intro a hf
 have hRb := hX.get (i := 0) rfl
 replace hX := hX.sub
 first | refine gc hf ?_ | refine go hf ?_
 intro a hf
 refine sv_call hf fnOK_97 rfl (take_any R s hs9 p (nd + 1) 1 (by omega) _ hRb) dd ?_
 rw [htk1]
 rintro e W2 ⟨rfl, hb, hg⟩
 replace hU := hU.turn hg hR1
 replace hX := hX.grown hg (fun k e => by obtain rfl := Option.some.inj e; exact ⟨Nat.zero_le _, (by intro x hx e; simp only [List.mem_cons, List.not_mem_nil, or_false] at hx; rcases hx with rfl; exact hneC1 e.symm), fun p hp _ => by rw [List.mem_singleton.1 hp]; exact fun h => h rfl⟩)
 replace hRb := hb
 clear hb hg
 obtain ⟨W, hWW⟩ : ∃ X, X = W2 := ⟨_, rfl⟩
 subst hWW
 refine ⟨_, rfl, fun a hf => ?_⟩
 refine sv_run (v := .int .u8 (((Tr.kB 1).toNat : Nat) : Int)) hf dd (fun a hf => (ex_chr (s := mkS [Tr.kB 1]) (k := 0) hf rfl rfl rfl u9 (Nat.zero_lt_one))) (fun a hf => ?_)
 refine sv_run (v := .int .i64 1) hf dd (fun a hf => (ex_cv83 hf rfl rfl).trans (by rw [hk0])) (fun a hf => ?_)
 refine sv_build (cs := [.int .i64 1, .int .i64 0, .string ⟨#[]⟩, .slice none 0 0, .slice none 0 0]) hf rfl (by kernel_rfl) dd (fun a hf => ?_)
 refine sv_alloc (zs := [.int .i64 0, .int .i64 0, .string ⟨#[]⟩, .slice none 0 0, .slice none 0 0]) hf hX zero_val dd (fun a C2 W hC hf hX hA => ?_)
 have hneC2 : R ≠ C2 := fun e => by have := hRb.lt; omega
 have h1C2 := Nat.lt_of_lt_of_eq hU.2 hC.symm
 replace hRb := hRb.keep hA
 replace hU := hU.below hA
 clear hC hA
 refine sv_sr hf hX rfl rfl 0 rfl rfl info_val (ones_of rfl) [(C2, [.int .i64 1, .int .i64 0, .string ⟨#[]⟩, .slice none 0 0, .slice none 0 0]), (C1, [.int .i64 0, .int .i64 0, .string ⟨#[]⟩, .slice none 0 0, .slice none 0 0])] rfl (fun W hX hO => ?_)
 replace hRb := hRb.other hO hneC2
 replace hU := hU.kept (Nat.le_of_eq hO.size.symm) (hO.heap 0 (fun e => by omega)) (hO.heap 1 (fun e => by omega))
 clear hO
 refine go hf ?_
 intro a hf
 refine wp_block ?_
 refine gc hf ?_
 intro a hf
 refine sv_lr hf hX rfl 0 rfl u29 info_val dd (fun a hf => ?_)
 refine sv_sr hf hX rfl rfl 1 rfl rfl info_val (ones_of rfl) [(C2, [.int .i64 1, .int .i64 0, .string ⟨#[]⟩, .slice none 0 0, .slice none 0 0]), (C1, [.int .i64 1, .int .i64 0, .string ⟨#[]⟩, .slice none 0 0, .slice none 0 0])] rfl (fun W hX hO => ?_)
 replace hRb := hRb.other hO hneC1
 replace hU := hU.kept (Nat.le_of_eq hO.size.symm) (hO.heap 0 (fun e => by omega)) (hO.heap 1 (fun e => by omega))
 clear hO
 refine go hf ?_
 intro a hf
 exact bodyPost_ret (res_cellV (c := 4) (C := C1) (cs := [.int .i64 1, .int .i64 0, .string ⟨#[]⟩, .slice none 0 0, .slice none 0 0]) (T := 29) rfl (hf.rel 4 _ rfl) (hX.get (i := 1) rfl) u29 info_val) hf.defers ⟨_, rfl, VAt.mk (by decide) (by decide) (by decide) (LAt.nil _ _) (FAt.nil _ _), hRb, ⟨hX.low.os, hX.low.tape, hX.low.output, (hX.bas _ List.mem_cons_self).1, fun k hk hne => (hX.bas _ List.mem_cons_self).2 k hk (fun e => hne (by rw [e]))⟩⟩
theorem rc_K2 (w : World) (R : Nat) (s : ByteArray) (p nd : Nat) (lv : Int) (post : List UInt8) (hs9 : s.size ≤ 1000000000) (hd1 : 1 ≤ lv) (hd2 : lv + (((Tr.mk 2 0 ⟨#[]⟩ .nil .nil).dep : Nat) : Int) ≤ 17) (hnd : nd + (Tr.mk 2 0 ⟨#[]⟩ .nil .nil).nod ≤ 1024) (hU : U8 w) (hR1 : 1 < R) (hp : s.data.toList.drop p = (Tr.mk 2 0 ⟨#[]⟩ .nil .nil).cb ++ post) (hRb : Box w R [.string s, .int .i64 (p : Int), .int .i64 (nd : Int)]) : Calls Tryz.prog 83 #[.pointer (some ⟨R, 0, none⟩), .int .i64 lv] w fun e w' => ∃ cs, e = .returned (.agg cs.toArray) ∧ VAt w' (fun k => w.heap.size ≤ k) (Tr.mk 2 0 ⟨#[]⟩ .nil .nil) cs ∧ Box w' R [.string s, .int .i64 ((p + (Tr.mk 2 0 ⟨#[]⟩ .nil .nil).cb.length : Nat) : Int), .int .i64 ((nd + (Tr.mk 2 0 ⟨#[]⟩ .nil .nil).nod : Nat) : Int)] ∧ w.grownBy w' (some R) := by
 have hRw := hRb.lt
 have hdp : lv ≤ 16 := by have : 1 ≤ (Tr.mk 2 0 ⟨#[]⟩ .nil .nil).dep := Nat.le_add_right _ _; omega
 have hnod : (Tr.mk 2 0 ⟨#[]⟩ .nil .nil).nod = 1 := rfl
 rw [hnod] at hnd ⊢
 have hcb : (Tr.mk 2 0 ⟨#[]⟩ .nil .nil).cb = [Tr.kB 2] := rfl
 rw [hcb] at hp ⊢
 rw [List.cons_append] at hp
 obtain ⟨hb0, hp0⟩ := drop_one hp
 have hk0 : (((Tr.kB 2).toNat : Nat) : Int) = 2 := by decide
 have hps : p < s.size := by have := (List.getElem?_eq_some_iff.1 hb0).1; rwa [size_list] at this
 have htk1 : (s.data.toList.drop p).take 1 = [Tr.kB 2] := by rw [hp]; rfl
 refine cv2 Tryz.func83 rfl rfl rfl fun a hf => ?_
 have hX := Bx.start w
 clear hX
 have hX := Bx.bare w (fun k => k ≠ R)
 refine gc hf ?_
 intro a hf
 refine sv_alloc (zs := [.int .i64 0, .int .i64 0, .string ⟨#[]⟩, .slice none 0 0, .slice none 0 0]) hf hX zero_val dd (fun a C1 W hC hf hX hA => ?_)
 have hneC1 : R ≠ C1 := fun e => by have := hRb.lt; omega
 have h1C1 := Nat.lt_of_lt_of_eq hU.2 hC.symm
 replace hRb := hRb.keep hA
 replace hU := hU.below hA
 clear hC hA
 refine go hf ?_
 intro a hf
 refine ct hf hdp fun a hf => ?_
 refine go hf ?_
 intro a hf
 refine sv_fld hf rfl Tryz.underlying145 rfl sz_int (2) rfl dd (fun a hf => ?_)
 refine go hf ?_
 intro a hf
 refine sv_lm hf rfl (hRb.cell 2 _ rfl) u3 rfl dd (fun a hf => ?_)
 refine go hf ?_
 intro a hf
 refine sv_cmp hf rfl rfl true (congrArg some (decide_eq_true (by omega))) dd (fun a hf => ?_)
 refine go hf ?_
 intro a hf
 refine sv_call hf fnOK_96 rfl (need_any _ _) dd ?_
 rintro e W' ⟨rfl, hw⟩
 subst hw
 refine ⟨_, rfl, fun a hf => ?_⟩
 refine go hf ?_
 intro a hf
 replace hX := hX.add hRb (Nat.zero_le _) (fun x hx e => by simp only [List.mem_cons, List.not_mem_nil, or_false] at hx; rcases hx with rfl; exact hneC1 e.symm) (fun p hp _ => by rw [List.mem_singleton.1 hp]; exact fun h => h rfl)
 clear hRb
 first | refine gc hf ?_ | refine go hf ?_
 intro a hf
 refine sv_fld hf rfl Tryz.underlying145 rfl sz_int (2) rfl dd (fun a hf => ?_)
 refine go hf ?_
 intro a hf
 refine sv_add ((nd + 1 : Nat) : Int) hf rfl rfl (by rw [wrap_in (by omega)]; rfl) dd (fun a hf => ?_)
 refine go hf ?_
 intro a hf
 refine sv_fld hf rfl Tryz.underlying145 rfl sz_int (2) rfl dd (fun a hf => ?_)
 refine sv_sc (cs' := [.string s, .int .i64 (p : Int), .int .i64 ((nd + 1 : Nat) : Int)]) hf hX rfl rfl 0 rfl dd rfl info_int rfl [(R, [.string s, .int .i64 (p : Int), .int .i64 ((nd + 1 : Nat) : Int)]), (C1, [.int .i64 0, .int .i64 0, .string ⟨#[]⟩, .slice none 0 0, .slice none 0 0])] rfl (fun W hX hO => ?_)
 replace hU := hU.kept (Nat.le_of_eq hO.size.symm) (hO.heap 0 (by omega)) (hO.heap 1 (by omega))
 clear hO
 refine go hf ?_
 intro a hf
 have hRb := hX.get (i := 0) rfl
 replace hX := hX.sub
 first | refine gc hf ?_ | refine go hf ?_
 intro a hf
 refine sv_call hf fnOK_97 rfl (take_any R s hs9 p (nd + 1) 1 (by omega) _ hRb) dd ?_
 rw [htk1]
 rintro e W2 ⟨rfl, hb, hg⟩
 replace hU := hU.turn hg hR1
 replace hX := hX.grown hg (fun k e => by obtain rfl := Option.some.inj e; exact ⟨Nat.zero_le _, (by intro x hx e; simp only [List.mem_cons, List.not_mem_nil, or_false] at hx; rcases hx with rfl; exact hneC1 e.symm), fun p hp _ => by rw [List.mem_singleton.1 hp]; exact fun h => h rfl⟩)
 replace hRb := hb
 clear hb hg
 obtain ⟨W, hWW⟩ : ∃ X, X = W2 := ⟨_, rfl⟩
 subst hWW
 refine ⟨_, rfl, fun a hf => ?_⟩
 refine sv_run (v := .int .u8 (((Tr.kB 2).toNat : Nat) : Int)) hf dd (fun a hf => (ex_chr (s := mkS [Tr.kB 2]) (k := 0) hf rfl rfl rfl u9 (Nat.zero_lt_one))) (fun a hf => ?_)
 refine sv_run (v := .int .i64 2) hf dd (fun a hf => (ex_cv83 hf rfl rfl).trans (by rw [hk0])) (fun a hf => ?_)
 refine sv_build (cs := [.int .i64 2, .int .i64 0, .string ⟨#[]⟩, .slice none 0 0, .slice none 0 0]) hf rfl (by kernel_rfl) dd (fun a hf => ?_)
 refine sv_alloc (zs := [.int .i64 0, .int .i64 0, .string ⟨#[]⟩, .slice none 0 0, .slice none 0 0]) hf hX zero_val dd (fun a C2 W hC hf hX hA => ?_)
 have hneC2 : R ≠ C2 := fun e => by have := hRb.lt; omega
 have h1C2 := Nat.lt_of_lt_of_eq hU.2 hC.symm
 replace hRb := hRb.keep hA
 replace hU := hU.below hA
 clear hC hA
 refine sv_sr hf hX rfl rfl 0 rfl rfl info_val (ones_of rfl) [(C2, [.int .i64 2, .int .i64 0, .string ⟨#[]⟩, .slice none 0 0, .slice none 0 0]), (C1, [.int .i64 0, .int .i64 0, .string ⟨#[]⟩, .slice none 0 0, .slice none 0 0])] rfl (fun W hX hO => ?_)
 replace hRb := hRb.other hO hneC2
 replace hU := hU.kept (Nat.le_of_eq hO.size.symm) (hO.heap 0 (fun e => by omega)) (hO.heap 1 (fun e => by omega))
 clear hO
 refine go hf ?_
 intro a hf
 refine wp_block ?_
 refine gc hf ?_
 intro a hf
 refine sv_lr hf hX rfl 0 rfl u29 info_val dd (fun a hf => ?_)
 refine sv_sr hf hX rfl rfl 1 rfl rfl info_val (ones_of rfl) [(C2, [.int .i64 2, .int .i64 0, .string ⟨#[]⟩, .slice none 0 0, .slice none 0 0]), (C1, [.int .i64 2, .int .i64 0, .string ⟨#[]⟩, .slice none 0 0, .slice none 0 0])] rfl (fun W hX hO => ?_)
 replace hRb := hRb.other hO hneC1
 replace hU := hU.kept (Nat.le_of_eq hO.size.symm) (hO.heap 0 (fun e => by omega)) (hO.heap 1 (fun e => by omega))
 clear hO
 refine go hf ?_
 intro a hf
 exact bodyPost_ret (res_cellV (c := 4) (C := C1) (cs := [.int .i64 2, .int .i64 0, .string ⟨#[]⟩, .slice none 0 0, .slice none 0 0]) (T := 29) rfl (hf.rel 4 _ rfl) (hX.get (i := 1) rfl) u29 info_val) hf.defers ⟨_, rfl, VAt.mk (by decide) (by decide) (by decide) (LAt.nil _ _) (FAt.nil _ _), hRb, ⟨hX.low.os, hX.low.tape, hX.low.output, (hX.bas _ List.mem_cons_self).1, fun k hk hne => (hX.bas _ List.mem_cons_self).2 k hk (fun e => hne (by rw [e]))⟩⟩
theorem rc_K11 (w : World) (R : Nat) (s : ByteArray) (p nd : Nat) (lv : Int) (post : List UInt8) (hs9 : s.size ≤ 1000000000) (hd1 : 1 ≤ lv) (hd2 : lv + (((Tr.mk 11 0 ⟨#[]⟩ .nil .nil).dep : Nat) : Int) ≤ 17) (hnd : nd + (Tr.mk 11 0 ⟨#[]⟩ .nil .nil).nod ≤ 1024) (hU : U8 w) (hR1 : 1 < R) (hp : s.data.toList.drop p = (Tr.mk 11 0 ⟨#[]⟩ .nil .nil).cb ++ post) (hRb : Box w R [.string s, .int .i64 (p : Int), .int .i64 (nd : Int)]) : Calls Tryz.prog 83 #[.pointer (some ⟨R, 0, none⟩), .int .i64 lv] w fun e w' => ∃ cs, e = .returned (.agg cs.toArray) ∧ VAt w' (fun k => w.heap.size ≤ k) (Tr.mk 11 0 ⟨#[]⟩ .nil .nil) cs ∧ Box w' R [.string s, .int .i64 ((p + (Tr.mk 11 0 ⟨#[]⟩ .nil .nil).cb.length : Nat) : Int), .int .i64 ((nd + (Tr.mk 11 0 ⟨#[]⟩ .nil .nil).nod : Nat) : Int)] ∧ w.grownBy w' (some R) := by
 have hRw := hRb.lt
 have hdp : lv ≤ 16 := by have : 1 ≤ (Tr.mk 11 0 ⟨#[]⟩ .nil .nil).dep := Nat.le_add_right _ _; omega
 have hnod : (Tr.mk 11 0 ⟨#[]⟩ .nil .nil).nod = 1 := rfl
 rw [hnod] at hnd ⊢
 have hcb : (Tr.mk 11 0 ⟨#[]⟩ .nil .nil).cb = [Tr.kB 11] := rfl
 rw [hcb] at hp ⊢
 rw [List.cons_append] at hp
 obtain ⟨hb0, hp0⟩ := drop_one hp
 have hk0 : (((Tr.kB 11).toNat : Nat) : Int) = 11 := by decide
 have hps : p < s.size := by have := (List.getElem?_eq_some_iff.1 hb0).1; rwa [size_list] at this
 have htk1 : (s.data.toList.drop p).take 1 = [Tr.kB 11] := by rw [hp]; rfl
 refine cv2 Tryz.func83 rfl rfl rfl fun a hf => ?_
 have hX := Bx.start w
 clear hX
 have hX := Bx.bare w (fun k => k ≠ R)
 refine gc hf ?_
 intro a hf
 refine sv_alloc (zs := [.int .i64 0, .int .i64 0, .string ⟨#[]⟩, .slice none 0 0, .slice none 0 0]) hf hX zero_val dd (fun a C1 W hC hf hX hA => ?_)
 have hneC1 : R ≠ C1 := fun e => by have := hRb.lt; omega
 have h1C1 := Nat.lt_of_lt_of_eq hU.2 hC.symm
 replace hRb := hRb.keep hA
 replace hU := hU.below hA
 clear hC hA
 refine go hf ?_
 intro a hf
 refine ct hf hdp fun a hf => ?_
 refine go hf ?_
 intro a hf
 refine sv_fld hf rfl Tryz.underlying145 rfl sz_int (2) rfl dd (fun a hf => ?_)
 refine go hf ?_
 intro a hf
 refine sv_lm hf rfl (hRb.cell 2 _ rfl) u3 rfl dd (fun a hf => ?_)
 refine go hf ?_
 intro a hf
 refine sv_cmp hf rfl rfl true (congrArg some (decide_eq_true (by omega))) dd (fun a hf => ?_)
 refine go hf ?_
 intro a hf
 refine sv_call hf fnOK_96 rfl (need_any _ _) dd ?_
 rintro e W' ⟨rfl, hw⟩
 subst hw
 refine ⟨_, rfl, fun a hf => ?_⟩
 refine go hf ?_
 intro a hf
 replace hX := hX.add hRb (Nat.zero_le _) (fun x hx e => by simp only [List.mem_cons, List.not_mem_nil, or_false] at hx; rcases hx with rfl; exact hneC1 e.symm) (fun p hp _ => by rw [List.mem_singleton.1 hp]; exact fun h => h rfl)
 clear hRb
 first | refine gc hf ?_ | refine go hf ?_
 intro a hf
 refine sv_fld hf rfl Tryz.underlying145 rfl sz_int (2) rfl dd (fun a hf => ?_)
 refine go hf ?_
 intro a hf
 refine sv_add ((nd + 1 : Nat) : Int) hf rfl rfl (by rw [wrap_in (by omega)]; rfl) dd (fun a hf => ?_)
 refine go hf ?_
 intro a hf
 refine sv_fld hf rfl Tryz.underlying145 rfl sz_int (2) rfl dd (fun a hf => ?_)
 refine sv_sc (cs' := [.string s, .int .i64 (p : Int), .int .i64 ((nd + 1 : Nat) : Int)]) hf hX rfl rfl 0 rfl dd rfl info_int rfl [(R, [.string s, .int .i64 (p : Int), .int .i64 ((nd + 1 : Nat) : Int)]), (C1, [.int .i64 0, .int .i64 0, .string ⟨#[]⟩, .slice none 0 0, .slice none 0 0])] rfl (fun W hX hO => ?_)
 replace hU := hU.kept (Nat.le_of_eq hO.size.symm) (hO.heap 0 (by omega)) (hO.heap 1 (by omega))
 clear hO
 refine go hf ?_
 intro a hf
 have hRb := hX.get (i := 0) rfl
 replace hX := hX.sub
 first | refine gc hf ?_ | refine go hf ?_
 intro a hf
 refine sv_call hf fnOK_97 rfl (take_any R s hs9 p (nd + 1) 1 (by omega) _ hRb) dd ?_
 rw [htk1]
 rintro e W2 ⟨rfl, hb, hg⟩
 replace hU := hU.turn hg hR1
 replace hX := hX.grown hg (fun k e => by obtain rfl := Option.some.inj e; exact ⟨Nat.zero_le _, (by intro x hx e; simp only [List.mem_cons, List.not_mem_nil, or_false] at hx; rcases hx with rfl; exact hneC1 e.symm), fun p hp _ => by rw [List.mem_singleton.1 hp]; exact fun h => h rfl⟩)
 replace hRb := hb
 clear hb hg
 obtain ⟨W, hWW⟩ : ∃ X, X = W2 := ⟨_, rfl⟩
 subst hWW
 refine ⟨_, rfl, fun a hf => ?_⟩
 refine sv_run (v := .int .u8 (((Tr.kB 11).toNat : Nat) : Int)) hf dd (fun a hf => (ex_chr (s := mkS [Tr.kB 11]) (k := 0) hf rfl rfl rfl u9 (Nat.zero_lt_one))) (fun a hf => ?_)
 refine sv_run (v := .int .i64 11) hf dd (fun a hf => (ex_cv83 hf rfl rfl).trans (by rw [hk0])) (fun a hf => ?_)
 refine sv_build (cs := [.int .i64 11, .int .i64 0, .string ⟨#[]⟩, .slice none 0 0, .slice none 0 0]) hf rfl (by kernel_rfl) dd (fun a hf => ?_)
 refine sv_alloc (zs := [.int .i64 0, .int .i64 0, .string ⟨#[]⟩, .slice none 0 0, .slice none 0 0]) hf hX zero_val dd (fun a C2 W hC hf hX hA => ?_)
 have hneC2 : R ≠ C2 := fun e => by have := hRb.lt; omega
 have h1C2 := Nat.lt_of_lt_of_eq hU.2 hC.symm
 replace hRb := hRb.keep hA
 replace hU := hU.below hA
 clear hC hA
 refine sv_sr hf hX rfl rfl 0 rfl rfl info_val (ones_of rfl) [(C2, [.int .i64 11, .int .i64 0, .string ⟨#[]⟩, .slice none 0 0, .slice none 0 0]), (C1, [.int .i64 0, .int .i64 0, .string ⟨#[]⟩, .slice none 0 0, .slice none 0 0])] rfl (fun W hX hO => ?_)
 replace hRb := hRb.other hO hneC2
 replace hU := hU.kept (Nat.le_of_eq hO.size.symm) (hO.heap 0 (fun e => by omega)) (hO.heap 1 (fun e => by omega))
 clear hO
 refine go hf ?_
 intro a hf
 refine wp_block ?_
 refine gc hf ?_
 intro a hf
 refine sv_lr hf hX rfl 0 rfl u29 info_val dd (fun a hf => ?_)
 refine sv_sr hf hX rfl rfl 1 rfl rfl info_val (ones_of rfl) [(C2, [.int .i64 11, .int .i64 0, .string ⟨#[]⟩, .slice none 0 0, .slice none 0 0]), (C1, [.int .i64 11, .int .i64 0, .string ⟨#[]⟩, .slice none 0 0, .slice none 0 0])] rfl (fun W hX hO => ?_)
 replace hRb := hRb.other hO hneC1
 replace hU := hU.kept (Nat.le_of_eq hO.size.symm) (hO.heap 0 (fun e => by omega)) (hO.heap 1 (fun e => by omega))
 clear hO
 refine go hf ?_
 intro a hf
 exact bodyPost_ret (res_cellV (c := 4) (C := C1) (cs := [.int .i64 11, .int .i64 0, .string ⟨#[]⟩, .slice none 0 0, .slice none 0 0]) (T := 29) rfl (hf.rel 4 _ rfl) (hX.get (i := 1) rfl) u29 info_val) hf.defers ⟨_, rfl, VAt.mk (by decide) (by decide) (by decide) (LAt.nil _ _) (FAt.nil _ _), hRb, ⟨hX.low.os, hX.low.tape, hX.low.output, (hX.bas _ List.mem_cons_self).1, fun k hk hne => (hX.bas _ List.mem_cons_self).2 k hk (fun e => hne (by rw [e]))⟩⟩
theorem rc_K3 (n : Int) (wn : wfI n) (w : World) (R : Nat) (s : ByteArray) (p nd : Nat) (lv : Int) (post : List UInt8) (hs9 : s.size ≤ 1000000000) (hd1 : 1 ≤ lv) (hd2 : lv + (((Tr.mk 3 n ⟨#[]⟩ .nil .nil).dep : Nat) : Int) ≤ 17) (hnd : nd + (Tr.mk 3 n ⟨#[]⟩ .nil .nil).nod ≤ 1024) (hU : U8 w) (hR1 : 1 < R) (hp : s.data.toList.drop p = (Tr.mk 3 n ⟨#[]⟩ .nil .nil).cb ++ post) (hRb : Box w R [.string s, .int .i64 (p : Int), .int .i64 (nd : Int)]) : Calls Tryz.prog 83 #[.pointer (some ⟨R, 0, none⟩), .int .i64 lv] w fun e w' => ∃ cs, e = .returned (.agg cs.toArray) ∧ VAt w' (fun k => w.heap.size ≤ k) (Tr.mk 3 n ⟨#[]⟩ .nil .nil) cs ∧ Box w' R [.string s, .int .i64 ((p + (Tr.mk 3 n ⟨#[]⟩ .nil .nil).cb.length : Nat) : Int), .int .i64 ((nd + (Tr.mk 3 n ⟨#[]⟩ .nil .nil).nod : Nat) : Int)] ∧ w.grownBy w' (some R) := by
 have hRw := hRb.lt
 have hdp : lv ≤ 16 := by have : 1 ≤ (Tr.mk 3 n ⟨#[]⟩ .nil .nil).dep := Nat.le_add_right _ _; omega
 have hnod : (Tr.mk 3 n ⟨#[]⟩ .nil .nil).nod = 1 := rfl
 rw [hnod] at hnd ⊢
 have hcb : (Tr.mk 3 n ⟨#[]⟩ .nil .nil).cb = (Tr.kB 3 :: Tr.nb n) := rfl
 rw [hcb] at hp ⊢
 rw [List.cons_append] at hp
 obtain ⟨hb0, hp0⟩ := drop_one hp
 have hk0 : (((Tr.kB 3).toNat : Nat) : Int) = 3 := by decide
 have hps : p < s.size := by have := (List.getElem?_eq_some_iff.1 hb0).1; rwa [size_list] at this
 have htk1 : (s.data.toList.drop p).take 1 = [Tr.kB 3] := by rw [hp]; rfl
 refine cv2 Tryz.func83 rfl rfl rfl fun a hf => ?_
 have hX := Bx.start w
 clear hX
 have hX := Bx.bare w (fun k => k ≠ R)
 refine gc hf ?_
 intro a hf
 refine sv_alloc (zs := [.int .i64 0, .int .i64 0, .string ⟨#[]⟩, .slice none 0 0, .slice none 0 0]) hf hX zero_val dd (fun a C1 W hC hf hX hA => ?_)
 have hneC1 : R ≠ C1 := fun e => by have := hRb.lt; omega
 have h1C1 := Nat.lt_of_lt_of_eq hU.2 hC.symm
 replace hRb := hRb.keep hA
 replace hU := hU.below hA
 clear hC hA
 refine go hf ?_
 intro a hf
 refine ct hf hdp fun a hf => ?_
 refine go hf ?_
 intro a hf
 refine sv_fld hf rfl Tryz.underlying145 rfl sz_int (2) rfl dd (fun a hf => ?_)
 refine go hf ?_
 intro a hf
 refine sv_lm hf rfl (hRb.cell 2 _ rfl) u3 rfl dd (fun a hf => ?_)
 refine go hf ?_
 intro a hf
 refine sv_cmp hf rfl rfl true (congrArg some (decide_eq_true (by omega))) dd (fun a hf => ?_)
 refine go hf ?_
 intro a hf
 refine sv_call hf fnOK_96 rfl (need_any _ _) dd ?_
 rintro e W' ⟨rfl, hw⟩
 subst hw
 refine ⟨_, rfl, fun a hf => ?_⟩
 refine go hf ?_
 intro a hf
 replace hX := hX.add hRb (Nat.zero_le _) (fun x hx e => by simp only [List.mem_cons, List.not_mem_nil, or_false] at hx; rcases hx with rfl; exact hneC1 e.symm) (fun p hp _ => by rw [List.mem_singleton.1 hp]; exact fun h => h rfl)
 clear hRb
 first | refine gc hf ?_ | refine go hf ?_
 intro a hf
 refine sv_fld hf rfl Tryz.underlying145 rfl sz_int (2) rfl dd (fun a hf => ?_)
 refine go hf ?_
 intro a hf
 refine sv_add ((nd + 1 : Nat) : Int) hf rfl rfl (by rw [wrap_in (by omega)]; rfl) dd (fun a hf => ?_)
 refine go hf ?_
 intro a hf
 refine sv_fld hf rfl Tryz.underlying145 rfl sz_int (2) rfl dd (fun a hf => ?_)
 refine sv_sc (cs' := [.string s, .int .i64 (p : Int), .int .i64 ((nd + 1 : Nat) : Int)]) hf hX rfl rfl 0 rfl dd rfl info_int rfl [(R, [.string s, .int .i64 (p : Int), .int .i64 ((nd + 1 : Nat) : Int)]), (C1, [.int .i64 0, .int .i64 0, .string ⟨#[]⟩, .slice none 0 0, .slice none 0 0])] rfl (fun W hX hO => ?_)
 replace hU := hU.kept (Nat.le_of_eq hO.size.symm) (hO.heap 0 (by omega)) (hO.heap 1 (by omega))
 clear hO
 refine go hf ?_
 intro a hf
 have hRb := hX.get (i := 0) rfl
 replace hX := hX.sub
 first | refine gc hf ?_ | refine go hf ?_
 intro a hf
 refine sv_call hf fnOK_97 rfl (take_any R s hs9 p (nd + 1) 1 (by omega) _ hRb) dd ?_
 rw [htk1]
 rintro e W2 ⟨rfl, hb, hg⟩
 replace hU := hU.turn hg hR1
 replace hX := hX.grown hg (fun k e => by obtain rfl := Option.some.inj e; exact ⟨Nat.zero_le _, (by intro x hx e; simp only [List.mem_cons, List.not_mem_nil, or_false] at hx; rcases hx with rfl; exact hneC1 e.symm), fun p hp _ => by rw [List.mem_singleton.1 hp]; exact fun h => h rfl⟩)
 replace hRb := hb
 clear hb hg
 obtain ⟨W, hWW⟩ : ∃ X, X = W2 := ⟨_, rfl⟩
 subst hWW
 refine ⟨_, rfl, fun a hf => ?_⟩
 refine sv_run (v := .int .u8 (((Tr.kB 3).toNat : Nat) : Int)) hf dd (fun a hf => (ex_chr (s := mkS [Tr.kB 3]) (k := 0) hf rfl rfl rfl u9 (Nat.zero_lt_one))) (fun a hf => ?_)
 refine sv_run (v := .int .i64 3) hf dd (fun a hf => (ex_cv83 hf rfl rfl).trans (by rw [hk0])) (fun a hf => ?_)
 refine sv_build (cs := [.int .i64 3, .int .i64 0, .string ⟨#[]⟩, .slice none 0 0, .slice none 0 0]) hf rfl (by kernel_rfl) dd (fun a hf => ?_)
 refine sv_alloc (zs := [.int .i64 0, .int .i64 0, .string ⟨#[]⟩, .slice none 0 0, .slice none 0 0]) hf hX zero_val dd (fun a C2 W hC hf hX hA => ?_)
 have hneC2 : R ≠ C2 := fun e => by have := hRb.lt; omega
 have h1C2 := Nat.lt_of_lt_of_eq hU.2 hC.symm
 replace hRb := hRb.keep hA
 replace hU := hU.below hA
 clear hC hA
 refine sv_sr hf hX rfl rfl 0 rfl rfl info_val (ones_of rfl) [(C2, [.int .i64 3, .int .i64 0, .string ⟨#[]⟩, .slice none 0 0, .slice none 0 0]), (C1, [.int .i64 0, .int .i64 0, .string ⟨#[]⟩, .slice none 0 0, .slice none 0 0])] rfl (fun W hX hO => ?_)
 replace hRb := hRb.other hO hneC2
 replace hU := hU.kept (Nat.le_of_eq hO.size.symm) (hO.heap 0 (fun e => by omega)) (hO.heap 1 (fun e => by omega))
 clear hO
 refine go hf ?_
 intro a hf
 refine wp_block ?_
 refine gc hf ?_
 intro a hf
 refine sv_call hf fnOK_98 rfl (cnum_any R s hs9 (p + 1) (nd + 1) n wn post hp0 _ hRb) dd ?_
 rintro e W2 ⟨rfl, hb, hg⟩
 replace hU := hU.turn hg hR1
 replace hX := hX.grown hg (fun k e => by obtain rfl := Option.some.inj e; exact ⟨Nat.zero_le _, (by intro x hx e; simp only [List.mem_cons, List.not_mem_nil, or_false] at hx; rcases hx with rfl | rfl; exact hneC2 e.symm; exact hneC1 e.symm), fun p hp _ => by rw [List.mem_singleton.1 hp]; exact fun h => h rfl⟩)
 replace hRb := hb
 clear hb hg
 obtain ⟨W, hWW⟩ : ∃ X, X = W2 := ⟨_, rfl⟩
 subst hWW
 refine ⟨_, rfl, fun a hf => ?_⟩
 refine go hf ?_
 intro a hf
 refine sv_sc (cs' := [.int .i64 3, .int .i64 n, .string ⟨#[]⟩, .slice none 0 0, .slice none 0 0]) hf hX rfl rfl 0 rfl dd rfl info_int rfl [(C2, [.int .i64 3, .int .i64 n, .string ⟨#[]⟩, .slice none 0 0, .slice none 0 0]), (C1, [.int .i64 0, .int .i64 0, .string ⟨#[]⟩, .slice none 0 0, .slice none 0 0])] rfl (fun W hX hO => ?_)
 replace hRb := hRb.other hO hneC2
 replace hU := hU.kept (Nat.le_of_eq hO.size.symm) (hO.heap 0 (fun e => by omega)) (hO.heap 1 (fun e => by omega))
 clear hO
 refine go hf ?_
 intro a hf
 refine sv_lr hf hX rfl 0 rfl u29 info_val dd (fun a hf => ?_)
 refine sv_sr hf hX rfl rfl 1 rfl rfl info_val (ones_of rfl) [(C2, [.int .i64 3, .int .i64 n, .string ⟨#[]⟩, .slice none 0 0, .slice none 0 0]), (C1, [.int .i64 3, .int .i64 n, .string ⟨#[]⟩, .slice none 0 0, .slice none 0 0])] rfl (fun W hX hO => ?_)
 replace hRb := hRb.other hO hneC1
 replace hU := hU.kept (Nat.le_of_eq hO.size.symm) (hO.heap 0 (fun e => by omega)) (hO.heap 1 (fun e => by omega))
 clear hO
 refine go hf ?_
 intro a hf
 exact bodyPost_ret (res_cellV (c := 4) (C := C1) (cs := [.int .i64 3, .int .i64 n, .string ⟨#[]⟩, .slice none 0 0, .slice none 0 0]) (T := 29) rfl (hf.rel 4 _ rfl) (hX.get (i := 1) rfl) u29 info_val) hf.defers ⟨_, rfl, VAt.mk (by decide) wn (by decide) (LAt.nil _ _) (FAt.nil _ _), (by rw [List.length_cons, show p + ((Tr.nb n).length + 1) = p + 1 + (Tr.nb n).length by omega]; exact hRb), ⟨hX.low.os, hX.low.tape, hX.low.output, (hX.bas _ List.mem_cons_self).1, fun k hk hne => (hX.bas _ List.mem_cons_self).2 k hk (fun e => hne (by rw [e]))⟩⟩
theorem rc_K10 (n : Int) (wn : wfI n) (h0n : 0 ≤ n) (w : World) (R : Nat) (s : ByteArray) (p nd : Nat) (lv : Int) (post : List UInt8) (hs9 : s.size ≤ 1000000000) (hd1 : 1 ≤ lv) (hd2 : lv + (((Tr.mk 10 n ⟨#[]⟩ .nil .nil).dep : Nat) : Int) ≤ 17) (hnd : nd + (Tr.mk 10 n ⟨#[]⟩ .nil .nil).nod ≤ 1024) (hU : U8 w) (hR1 : 1 < R) (hp : s.data.toList.drop p = (Tr.mk 10 n ⟨#[]⟩ .nil .nil).cb ++ post) (hRb : Box w R [.string s, .int .i64 (p : Int), .int .i64 (nd : Int)]) : Calls Tryz.prog 83 #[.pointer (some ⟨R, 0, none⟩), .int .i64 lv] w fun e w' => ∃ cs, e = .returned (.agg cs.toArray) ∧ VAt w' (fun k => w.heap.size ≤ k) (Tr.mk 10 n ⟨#[]⟩ .nil .nil) cs ∧ Box w' R [.string s, .int .i64 ((p + (Tr.mk 10 n ⟨#[]⟩ .nil .nil).cb.length : Nat) : Int), .int .i64 ((nd + (Tr.mk 10 n ⟨#[]⟩ .nil .nil).nod : Nat) : Int)] ∧ w.grownBy w' (some R) := by
 have hRw := hRb.lt
 have hdp : lv ≤ 16 := by have : 1 ≤ (Tr.mk 10 n ⟨#[]⟩ .nil .nil).dep := Nat.le_add_right _ _; omega
 have hnod : (Tr.mk 10 n ⟨#[]⟩ .nil .nil).nod = 1 := rfl
 rw [hnod] at hnd ⊢
 have hcb : (Tr.mk 10 n ⟨#[]⟩ .nil .nil).cb = (Tr.kB 10 :: Tr.nb n) := rfl
 rw [hcb] at hp ⊢
 rw [List.cons_append] at hp
 obtain ⟨hb0, hp0⟩ := drop_one hp
 have hk0 : (((Tr.kB 10).toNat : Nat) : Int) = 10 := by decide
 have hps : p < s.size := by have := (List.getElem?_eq_some_iff.1 hb0).1; rwa [size_list] at this
 have htk1 : (s.data.toList.drop p).take 1 = [Tr.kB 10] := by rw [hp]; rfl
 refine cv2 Tryz.func83 rfl rfl rfl fun a hf => ?_
 have hX := Bx.start w
 clear hX
 have hX := Bx.bare w (fun k => k ≠ R)
 refine gc hf ?_
 intro a hf
 refine sv_alloc (zs := [.int .i64 0, .int .i64 0, .string ⟨#[]⟩, .slice none 0 0, .slice none 0 0]) hf hX zero_val dd (fun a C1 W hC hf hX hA => ?_)
 have hneC1 : R ≠ C1 := fun e => by have := hRb.lt; omega
 have h1C1 := Nat.lt_of_lt_of_eq hU.2 hC.symm
 replace hRb := hRb.keep hA
 replace hU := hU.below hA
 clear hC hA
 refine go hf ?_
 intro a hf
 refine ct hf hdp fun a hf => ?_
 refine go hf ?_
 intro a hf
 refine sv_fld hf rfl Tryz.underlying145 rfl sz_int (2) rfl dd (fun a hf => ?_)
 refine go hf ?_
 intro a hf
 refine sv_lm hf rfl (hRb.cell 2 _ rfl) u3 rfl dd (fun a hf => ?_)
 refine go hf ?_
 intro a hf
 refine sv_cmp hf rfl rfl true (congrArg some (decide_eq_true (by omega))) dd (fun a hf => ?_)
 refine go hf ?_
 intro a hf
 refine sv_call hf fnOK_96 rfl (need_any _ _) dd ?_
 rintro e W' ⟨rfl, hw⟩
 subst hw
 refine ⟨_, rfl, fun a hf => ?_⟩
 refine go hf ?_
 intro a hf
 replace hX := hX.add hRb (Nat.zero_le _) (fun x hx e => by simp only [List.mem_cons, List.not_mem_nil, or_false] at hx; rcases hx with rfl; exact hneC1 e.symm) (fun p hp _ => by rw [List.mem_singleton.1 hp]; exact fun h => h rfl)
 clear hRb
 first | refine gc hf ?_ | refine go hf ?_
 intro a hf
 refine sv_fld hf rfl Tryz.underlying145 rfl sz_int (2) rfl dd (fun a hf => ?_)
 refine go hf ?_
 intro a hf
 refine sv_add ((nd + 1 : Nat) : Int) hf rfl rfl (by rw [wrap_in (by omega)]; rfl) dd (fun a hf => ?_)
 refine go hf ?_
 intro a hf
 refine sv_fld hf rfl Tryz.underlying145 rfl sz_int (2) rfl dd (fun a hf => ?_)
 refine sv_sc (cs' := [.string s, .int .i64 (p : Int), .int .i64 ((nd + 1 : Nat) : Int)]) hf hX rfl rfl 0 rfl dd rfl info_int rfl [(R, [.string s, .int .i64 (p : Int), .int .i64 ((nd + 1 : Nat) : Int)]), (C1, [.int .i64 0, .int .i64 0, .string ⟨#[]⟩, .slice none 0 0, .slice none 0 0])] rfl (fun W hX hO => ?_)
 replace hU := hU.kept (Nat.le_of_eq hO.size.symm) (hO.heap 0 (by omega)) (hO.heap 1 (by omega))
 clear hO
 refine go hf ?_
 intro a hf
 have hRb := hX.get (i := 0) rfl
 replace hX := hX.sub
 first | refine gc hf ?_ | refine go hf ?_
 intro a hf
 refine sv_call hf fnOK_97 rfl (take_any R s hs9 p (nd + 1) 1 (by omega) _ hRb) dd ?_
 rw [htk1]
 rintro e W2 ⟨rfl, hb, hg⟩
 replace hU := hU.turn hg hR1
 replace hX := hX.grown hg (fun k e => by obtain rfl := Option.some.inj e; exact ⟨Nat.zero_le _, (by intro x hx e; simp only [List.mem_cons, List.not_mem_nil, or_false] at hx; rcases hx with rfl; exact hneC1 e.symm), fun p hp _ => by rw [List.mem_singleton.1 hp]; exact fun h => h rfl⟩)
 replace hRb := hb
 clear hb hg
 obtain ⟨W, hWW⟩ : ∃ X, X = W2 := ⟨_, rfl⟩
 subst hWW
 refine ⟨_, rfl, fun a hf => ?_⟩
 refine sv_run (v := .int .u8 (((Tr.kB 10).toNat : Nat) : Int)) hf dd (fun a hf => (ex_chr (s := mkS [Tr.kB 10]) (k := 0) hf rfl rfl rfl u9 (Nat.zero_lt_one))) (fun a hf => ?_)
 refine sv_run (v := .int .i64 10) hf dd (fun a hf => (ex_cv83 hf rfl rfl).trans (by rw [hk0])) (fun a hf => ?_)
 refine sv_build (cs := [.int .i64 10, .int .i64 0, .string ⟨#[]⟩, .slice none 0 0, .slice none 0 0]) hf rfl (by kernel_rfl) dd (fun a hf => ?_)
 refine sv_alloc (zs := [.int .i64 0, .int .i64 0, .string ⟨#[]⟩, .slice none 0 0, .slice none 0 0]) hf hX zero_val dd (fun a C2 W hC hf hX hA => ?_)
 have hneC2 : R ≠ C2 := fun e => by have := hRb.lt; omega
 have h1C2 := Nat.lt_of_lt_of_eq hU.2 hC.symm
 replace hRb := hRb.keep hA
 replace hU := hU.below hA
 clear hC hA
 refine sv_sr hf hX rfl rfl 0 rfl rfl info_val (ones_of rfl) [(C2, [.int .i64 10, .int .i64 0, .string ⟨#[]⟩, .slice none 0 0, .slice none 0 0]), (C1, [.int .i64 0, .int .i64 0, .string ⟨#[]⟩, .slice none 0 0, .slice none 0 0])] rfl (fun W hX hO => ?_)
 replace hRb := hRb.other hO hneC2
 replace hU := hU.kept (Nat.le_of_eq hO.size.symm) (hO.heap 0 (fun e => by omega)) (hO.heap 1 (fun e => by omega))
 clear hO
 refine go hf ?_
 intro a hf
 refine wp_block ?_
 refine gc hf ?_
 intro a hf
 refine sv_call hf fnOK_99 rfl (count_any R s hs9 (p + 1) (nd + 1) n wn h0n post hp0 _ hRb) dd ?_
 rintro e W2 ⟨rfl, hb, hg⟩
 replace hU := hU.turn hg hR1
 replace hX := hX.grown hg (fun k e => by obtain rfl := Option.some.inj e; exact ⟨Nat.zero_le _, (by intro x hx e; simp only [List.mem_cons, List.not_mem_nil, or_false] at hx; rcases hx with rfl | rfl; exact hneC2 e.symm; exact hneC1 e.symm), fun p hp _ => by rw [List.mem_singleton.1 hp]; exact fun h => h rfl⟩)
 replace hRb := hb
 clear hb hg
 obtain ⟨W, hWW⟩ : ∃ X, X = W2 := ⟨_, rfl⟩
 subst hWW
 refine ⟨_, rfl, fun a hf => ?_⟩
 refine go hf ?_
 intro a hf
 refine sv_sc (cs' := [.int .i64 10, .int .i64 n, .string ⟨#[]⟩, .slice none 0 0, .slice none 0 0]) hf hX rfl rfl 0 rfl dd rfl info_int rfl [(C2, [.int .i64 10, .int .i64 n, .string ⟨#[]⟩, .slice none 0 0, .slice none 0 0]), (C1, [.int .i64 0, .int .i64 0, .string ⟨#[]⟩, .slice none 0 0, .slice none 0 0])] rfl (fun W hX hO => ?_)
 replace hRb := hRb.other hO hneC2
 replace hU := hU.kept (Nat.le_of_eq hO.size.symm) (hO.heap 0 (fun e => by omega)) (hO.heap 1 (fun e => by omega))
 clear hO
 refine go hf ?_
 intro a hf
 refine sv_lr hf hX rfl 0 rfl u29 info_val dd (fun a hf => ?_)
 refine sv_sr hf hX rfl rfl 1 rfl rfl info_val (ones_of rfl) [(C2, [.int .i64 10, .int .i64 n, .string ⟨#[]⟩, .slice none 0 0, .slice none 0 0]), (C1, [.int .i64 10, .int .i64 n, .string ⟨#[]⟩, .slice none 0 0, .slice none 0 0])] rfl (fun W hX hO => ?_)
 replace hRb := hRb.other hO hneC1
 replace hU := hU.kept (Nat.le_of_eq hO.size.symm) (hO.heap 0 (fun e => by omega)) (hO.heap 1 (fun e => by omega))
 clear hO
 refine go hf ?_
 intro a hf
 exact bodyPost_ret (res_cellV (c := 4) (C := C1) (cs := [.int .i64 10, .int .i64 n, .string ⟨#[]⟩, .slice none 0 0, .slice none 0 0]) (T := 29) rfl (hf.rel 4 _ rfl) (hX.get (i := 1) rfl) u29 info_val) hf.defers ⟨_, rfl, VAt.mk (by decide) wn (by decide) (LAt.nil _ _) (FAt.nil _ _), (by rw [List.length_cons, show p + ((Tr.nb n).length + 1) = p + 1 + (Tr.nb n).length by omega]; exact hRb), ⟨hX.low.os, hX.low.tape, hX.low.output, (hX.bas _ List.mem_cons_self).1, fun k hk hne => (hX.bas _ List.mem_cons_self).2 k hk (fun e => hne (by rw [e]))⟩⟩
theorem rc_K9 (n : Int) (wn : wfI n) (h9 : n = 0 ∨ n = 1) (w : World) (R : Nat) (s : ByteArray) (p nd : Nat) (lv : Int) (post : List UInt8) (hs9 : s.size ≤ 1000000000) (hd1 : 1 ≤ lv) (hd2 : lv + (((Tr.mk 9 n ⟨#[]⟩ .nil .nil).dep : Nat) : Int) ≤ 17) (hnd : nd + (Tr.mk 9 n ⟨#[]⟩ .nil .nil).nod ≤ 1024) (hU : U8 w) (hR1 : 1 < R) (hp : s.data.toList.drop p = (Tr.mk 9 n ⟨#[]⟩ .nil .nil).cb ++ post) (hRb : Box w R [.string s, .int .i64 (p : Int), .int .i64 (nd : Int)]) : Calls Tryz.prog 83 #[.pointer (some ⟨R, 0, none⟩), .int .i64 lv] w fun e w' => ∃ cs, e = .returned (.agg cs.toArray) ∧ VAt w' (fun k => w.heap.size ≤ k) (Tr.mk 9 n ⟨#[]⟩ .nil .nil) cs ∧ Box w' R [.string s, .int .i64 ((p + (Tr.mk 9 n ⟨#[]⟩ .nil .nil).cb.length : Nat) : Int), .int .i64 ((nd + (Tr.mk 9 n ⟨#[]⟩ .nil .nil).nod : Nat) : Int)] ∧ w.grownBy w' (some R) := by
 have hRw := hRb.lt
 have hdp : lv ≤ 16 := by have : 1 ≤ (Tr.mk 9 n ⟨#[]⟩ .nil .nil).dep := Nat.le_add_right _ _; omega
 have hnod : (Tr.mk 9 n ⟨#[]⟩ .nil .nil).nod = 1 := rfl
 rw [hnod] at hnd ⊢
 have hcb : (Tr.mk 9 n ⟨#[]⟩ .nil .nil).cb = [Tr.kB 9, UInt8.ofNat (n % 256).toNat] := rfl
 rw [hcb] at hp ⊢
 rw [List.cons_append] at hp
 obtain ⟨hb0, hp0⟩ := drop_one hp
 have hk0 : (((Tr.kB 9).toNat : Nat) : Int) = 9 := by decide
 have hps : p < s.size := by have := (List.getElem?_eq_some_iff.1 hb0).1; rwa [size_list] at this
 have htk1 : (s.data.toList.drop p).take 1 = [Tr.kB 9] := by rw [hp]; rfl
 obtain ⟨hb1, hp1⟩ := drop_one hp0
 have hps1 : p + 1 < s.size := by have := (List.getElem?_eq_some_iff.1 hb1).1; rwa [size_list] at this
 have htk2 : (s.data.toList.drop (p + 1)).take 1 = [UInt8.ofNat (n % 256).toNat] := by rw [hp0]; rfl
 have hn9 : (((UInt8.ofNat (n % 256).toNat).toNat : Nat) : Int) = n := by rcases h9 with rfl | rfl <;> decide
 refine cv2 Tryz.func83 rfl rfl rfl fun a hf => ?_
 have hX := Bx.start w
 clear hX
 have hX := Bx.bare w (fun k => k ≠ R)
 refine gc hf ?_
 intro a hf
 refine sv_alloc (zs := [.int .i64 0, .int .i64 0, .string ⟨#[]⟩, .slice none 0 0, .slice none 0 0]) hf hX zero_val dd (fun a C1 W hC hf hX hA => ?_)
 have hneC1 : R ≠ C1 := fun e => by have := hRb.lt; omega
 have h1C1 := Nat.lt_of_lt_of_eq hU.2 hC.symm
 replace hRb := hRb.keep hA
 replace hU := hU.below hA
 clear hC hA
 refine go hf ?_
 intro a hf
 refine ct hf hdp fun a hf => ?_
 refine go hf ?_
 intro a hf
 refine sv_fld hf rfl Tryz.underlying145 rfl sz_int (2) rfl dd (fun a hf => ?_)
 refine go hf ?_
 intro a hf
 refine sv_lm hf rfl (hRb.cell 2 _ rfl) u3 rfl dd (fun a hf => ?_)
 refine go hf ?_
 intro a hf
 refine sv_cmp hf rfl rfl true (congrArg some (decide_eq_true (by omega))) dd (fun a hf => ?_)
 refine go hf ?_
 intro a hf
 refine sv_call hf fnOK_96 rfl (need_any _ _) dd ?_
 rintro e W' ⟨rfl, hw⟩
 subst hw
 refine ⟨_, rfl, fun a hf => ?_⟩
 refine go hf ?_
 intro a hf
 replace hX := hX.add hRb (Nat.zero_le _) (fun x hx e => by simp only [List.mem_cons, List.not_mem_nil, or_false] at hx; rcases hx with rfl; exact hneC1 e.symm) (fun p hp _ => by rw [List.mem_singleton.1 hp]; exact fun h => h rfl)
 clear hRb
 first | refine gc hf ?_ | refine go hf ?_
 intro a hf
 refine sv_fld hf rfl Tryz.underlying145 rfl sz_int (2) rfl dd (fun a hf => ?_)
 refine go hf ?_
 intro a hf
 refine sv_add ((nd + 1 : Nat) : Int) hf rfl rfl (by rw [wrap_in (by omega)]; rfl) dd (fun a hf => ?_)
 refine go hf ?_
 intro a hf
 refine sv_fld hf rfl Tryz.underlying145 rfl sz_int (2) rfl dd (fun a hf => ?_)
 refine sv_sc (cs' := [.string s, .int .i64 (p : Int), .int .i64 ((nd + 1 : Nat) : Int)]) hf hX rfl rfl 0 rfl dd rfl info_int rfl [(R, [.string s, .int .i64 (p : Int), .int .i64 ((nd + 1 : Nat) : Int)]), (C1, [.int .i64 0, .int .i64 0, .string ⟨#[]⟩, .slice none 0 0, .slice none 0 0])] rfl (fun W hX hO => ?_)
 replace hU := hU.kept (Nat.le_of_eq hO.size.symm) (hO.heap 0 (by omega)) (hO.heap 1 (by omega))
 clear hO
 refine go hf ?_
 intro a hf
 have hRb := hX.get (i := 0) rfl
 replace hX := hX.sub
 first | refine gc hf ?_ | refine go hf ?_
 intro a hf
 refine sv_call hf fnOK_97 rfl (take_any R s hs9 p (nd + 1) 1 (by omega) _ hRb) dd ?_
 rw [htk1]
 rintro e W2 ⟨rfl, hb, hg⟩
 replace hU := hU.turn hg hR1
 replace hX := hX.grown hg (fun k e => by obtain rfl := Option.some.inj e; exact ⟨Nat.zero_le _, (by intro x hx e; simp only [List.mem_cons, List.not_mem_nil, or_false] at hx; rcases hx with rfl; exact hneC1 e.symm), fun p hp _ => by rw [List.mem_singleton.1 hp]; exact fun h => h rfl⟩)
 replace hRb := hb
 clear hb hg
 obtain ⟨W, hWW⟩ : ∃ X, X = W2 := ⟨_, rfl⟩
 subst hWW
 refine ⟨_, rfl, fun a hf => ?_⟩
 refine sv_run (v := .int .u8 (((Tr.kB 9).toNat : Nat) : Int)) hf dd (fun a hf => (ex_chr (s := mkS [Tr.kB 9]) (k := 0) hf rfl rfl rfl u9 (Nat.zero_lt_one))) (fun a hf => ?_)
 refine sv_run (v := .int .i64 9) hf dd (fun a hf => (ex_cv83 hf rfl rfl).trans (by rw [hk0])) (fun a hf => ?_)
 refine sv_build (cs := [.int .i64 9, .int .i64 0, .string ⟨#[]⟩, .slice none 0 0, .slice none 0 0]) hf rfl (by kernel_rfl) dd (fun a hf => ?_)
 refine sv_alloc (zs := [.int .i64 0, .int .i64 0, .string ⟨#[]⟩, .slice none 0 0, .slice none 0 0]) hf hX zero_val dd (fun a C2 W hC hf hX hA => ?_)
 have hneC2 : R ≠ C2 := fun e => by have := hRb.lt; omega
 have h1C2 := Nat.lt_of_lt_of_eq hU.2 hC.symm
 replace hRb := hRb.keep hA
 replace hU := hU.below hA
 clear hC hA
 refine sv_sr hf hX rfl rfl 0 rfl rfl info_val (ones_of rfl) [(C2, [.int .i64 9, .int .i64 0, .string ⟨#[]⟩, .slice none 0 0, .slice none 0 0]), (C1, [.int .i64 0, .int .i64 0, .string ⟨#[]⟩, .slice none 0 0, .slice none 0 0])] rfl (fun W hX hO => ?_)
 replace hRb := hRb.other hO hneC2
 replace hU := hU.kept (Nat.le_of_eq hO.size.symm) (hO.heap 0 (fun e => by omega)) (hO.heap 1 (fun e => by omega))
 clear hO
 refine go hf ?_
 intro a hf
 refine wp_block ?_
 refine gc hf ?_
 intro a hf
 refine sv_call hf fnOK_97 rfl (take_any R s hs9 (p + 1) (nd + 1) 1 (by omega) _ hRb) dd ?_
 rw [htk2]
 rintro e W2 ⟨rfl, hb, hg⟩
 replace hU := hU.turn hg hR1
 replace hX := hX.grown hg (fun k e => by obtain rfl := Option.some.inj e; exact ⟨Nat.zero_le _, (by intro x hx e; simp only [List.mem_cons, List.not_mem_nil, or_false] at hx; rcases hx with rfl | rfl; exact hneC2 e.symm; exact hneC1 e.symm), fun p hp _ => by rw [List.mem_singleton.1 hp]; exact fun h => h rfl⟩)
 replace hRb := hb
 clear hb hg
 obtain ⟨W, hWW⟩ : ∃ X, X = W2 := ⟨_, rfl⟩
 subst hWW
 refine ⟨_, rfl, fun a hf => ?_⟩
 refine sv_run (v := .int .u8 (((UInt8.ofNat (n % 256).toNat).toNat : Nat) : Int)) hf dd (fun a hf => (ex_chr (s := mkS [UInt8.ofNat (n % 256).toNat]) (k := 0) hf rfl rfl rfl u9 (Nat.zero_lt_one))) (fun a hf => ?_)
 refine sv_run (v := .int .i64 n) hf dd (fun a hf => (ex_cv83 hf rfl rfl).trans (by rw [hn9])) (fun a hf => ?_)
 refine go hf ?_
 intro a hf
 refine sv_sc (cs' := [.int .i64 9, .int .i64 n, .string ⟨#[]⟩, .slice none 0 0, .slice none 0 0]) hf hX rfl rfl 0 rfl dd rfl info_int rfl [(C2, [.int .i64 9, .int .i64 n, .string ⟨#[]⟩, .slice none 0 0, .slice none 0 0]), (C1, [.int .i64 0, .int .i64 0, .string ⟨#[]⟩, .slice none 0 0, .slice none 0 0])] rfl (fun W hX hO => ?_)
 replace hRb := hRb.other hO hneC2
 replace hU := hU.kept (Nat.le_of_eq hO.size.symm) (hO.heap 0 (fun e => by omega)) (hO.heap 1 (fun e => by omega))
 clear hO
 refine go hf ?_
 intro a hf
 refine sv_cmp hf rfl rfl true (congrArg some (decide_eq_true (by omega))) dd (fun a hf => ?_)
 refine sv_call hf fnOK_96 rfl (need_any _ _) dd ?_
 rintro e W' ⟨rfl, hw⟩
 subst hw
 refine ⟨_, rfl, fun a hf => ?_⟩
 refine go hf ?_
 intro a hf
 refine sv_lr hf hX rfl 0 rfl u29 info_val dd (fun a hf => ?_)
 refine sv_sr hf hX rfl rfl 1 rfl rfl info_val (ones_of rfl) [(C2, [.int .i64 9, .int .i64 n, .string ⟨#[]⟩, .slice none 0 0, .slice none 0 0]), (C1, [.int .i64 9, .int .i64 n, .string ⟨#[]⟩, .slice none 0 0, .slice none 0 0])] rfl (fun W hX hO => ?_)
 replace hRb := hRb.other hO hneC1
 replace hU := hU.kept (Nat.le_of_eq hO.size.symm) (hO.heap 0 (fun e => by omega)) (hO.heap 1 (fun e => by omega))
 clear hO
 refine go hf ?_
 intro a hf
 exact bodyPost_ret (res_cellV (c := 4) (C := C1) (cs := [.int .i64 9, .int .i64 n, .string ⟨#[]⟩, .slice none 0 0, .slice none 0 0]) (T := 29) rfl (hf.rel 4 _ rfl) (hX.get (i := 1) rfl) u29 info_val) hf.defers ⟨_, rfl, VAt.mk (by decide) wn (by decide) (LAt.nil _ _) (FAt.nil _ _), hRb, ⟨hX.low.os, hX.low.tape, hX.low.output, (hX.bas _ List.mem_cons_self).1, fun k hk hne => (hX.bas _ List.mem_cons_self).2 k hk (fun e => hne (by rw [e]))⟩⟩
theorem rc_K4 (x : ByteArray) (hx : x.size ≤ 4096) (hval : Lib.validD x.data.toList = true) (w : World) (R : Nat) (s : ByteArray) (p nd : Nat) (lv : Int) (post : List UInt8) (hs9 : s.size ≤ 1000000000) (hd1 : 1 ≤ lv) (hd2 : lv + (((Tr.mk 4 0 x .nil .nil).dep : Nat) : Int) ≤ 17) (hnd : nd + (Tr.mk 4 0 x .nil .nil).nod ≤ 1024) (hU : U8 w) (hR1 : 1 < R) (hp : s.data.toList.drop p = (Tr.mk 4 0 x .nil .nil).cb ++ post) (hRb : Box w R [.string s, .int .i64 (p : Int), .int .i64 (nd : Int)]) : Calls Tryz.prog 83 #[.pointer (some ⟨R, 0, none⟩), .int .i64 lv] w fun e w' => ∃ cs, e = .returned (.agg cs.toArray) ∧ VAt w' (fun k => w.heap.size ≤ k) (Tr.mk 4 0 x .nil .nil) cs ∧ Box w' R [.string s, .int .i64 ((p + (Tr.mk 4 0 x .nil .nil).cb.length : Nat) : Int), .int .i64 ((nd + (Tr.mk 4 0 x .nil .nil).nod : Nat) : Int)] ∧ w.grownBy w' (some R) := by
 have hRw := hRb.lt
 have hdp : lv ≤ 16 := by have : 1 ≤ (Tr.mk 4 0 x .nil .nil).dep := Nat.le_add_right _ _; omega
 have hnod : (Tr.mk 4 0 x .nil .nil).nod = 1 := rfl
 rw [hnod] at hnd ⊢
 have hcb : (Tr.mk 4 0 x .nil .nil).cb = (Tr.kB 4 :: (Tr.nb x.size ++ x.data.toList)) := rfl
 rw [hcb] at hp ⊢
 rw [List.cons_append] at hp
 obtain ⟨hb0, hp0⟩ := drop_one hp
 have hk0 : (((Tr.kB 4).toNat : Nat) : Int) = 4 := by decide
 have hps : p < s.size := by have := (List.getElem?_eq_some_iff.1 hb0).1; rwa [size_list] at this
 have htk1 : (s.data.toList.drop p).take 1 = [Tr.kB 4] := by rw [hp]; rfl
 refine cv2 Tryz.func83 rfl rfl rfl fun a hf => ?_
 have hX := Bx.start w
 clear hX
 have hX := Bx.bare w (fun k => k ≠ R)
 refine gc hf ?_
 intro a hf
 refine sv_alloc (zs := [.int .i64 0, .int .i64 0, .string ⟨#[]⟩, .slice none 0 0, .slice none 0 0]) hf hX zero_val dd (fun a C1 W hC hf hX hA => ?_)
 have hneC1 : R ≠ C1 := fun e => by have := hRb.lt; omega
 have h1C1 := Nat.lt_of_lt_of_eq hU.2 hC.symm
 replace hRb := hRb.keep hA
 replace hU := hU.below hA
 clear hC hA
 refine go hf ?_
 intro a hf
 refine ct hf hdp fun a hf => ?_
 refine go hf ?_
 intro a hf
 refine sv_fld hf rfl Tryz.underlying145 rfl sz_int (2) rfl dd (fun a hf => ?_)
 refine go hf ?_
 intro a hf
 refine sv_lm hf rfl (hRb.cell 2 _ rfl) u3 rfl dd (fun a hf => ?_)
 refine go hf ?_
 intro a hf
 refine sv_cmp hf rfl rfl true (congrArg some (decide_eq_true (by omega))) dd (fun a hf => ?_)
 refine go hf ?_
 intro a hf
 refine sv_call hf fnOK_96 rfl (need_any _ _) dd ?_
 rintro e W' ⟨rfl, hw⟩
 subst hw
 refine ⟨_, rfl, fun a hf => ?_⟩
 refine go hf ?_
 intro a hf
 replace hX := hX.add hRb (Nat.zero_le _) (fun x hx e => by simp only [List.mem_cons, List.not_mem_nil, or_false] at hx; rcases hx with rfl; exact hneC1 e.symm) (fun p hp _ => by rw [List.mem_singleton.1 hp]; exact fun h => h rfl)
 clear hRb
 first | refine gc hf ?_ | refine go hf ?_
 intro a hf
 refine sv_fld hf rfl Tryz.underlying145 rfl sz_int (2) rfl dd (fun a hf => ?_)
 refine go hf ?_
 intro a hf
 refine sv_add ((nd + 1 : Nat) : Int) hf rfl rfl (by rw [wrap_in (by omega)]; rfl) dd (fun a hf => ?_)
 refine go hf ?_
 intro a hf
 refine sv_fld hf rfl Tryz.underlying145 rfl sz_int (2) rfl dd (fun a hf => ?_)
 refine sv_sc (cs' := [.string s, .int .i64 (p : Int), .int .i64 ((nd + 1 : Nat) : Int)]) hf hX rfl rfl 0 rfl dd rfl info_int rfl [(R, [.string s, .int .i64 (p : Int), .int .i64 ((nd + 1 : Nat) : Int)]), (C1, [.int .i64 0, .int .i64 0, .string ⟨#[]⟩, .slice none 0 0, .slice none 0 0])] rfl (fun W hX hO => ?_)
 replace hU := hU.kept (Nat.le_of_eq hO.size.symm) (hO.heap 0 (by omega)) (hO.heap 1 (by omega))
 clear hO
 refine go hf ?_
 intro a hf
 have hRb := hX.get (i := 0) rfl
 replace hX := hX.sub
 first | refine gc hf ?_ | refine go hf ?_
 intro a hf
 refine sv_call hf fnOK_97 rfl (take_any R s hs9 p (nd + 1) 1 (by omega) _ hRb) dd ?_
 rw [htk1]
 rintro e W2 ⟨rfl, hb, hg⟩
 replace hU := hU.turn hg hR1
 replace hX := hX.grown hg (fun k e => by obtain rfl := Option.some.inj e; exact ⟨Nat.zero_le _, (by intro x hx e; simp only [List.mem_cons, List.not_mem_nil, or_false] at hx; rcases hx with rfl; exact hneC1 e.symm), fun p hp _ => by rw [List.mem_singleton.1 hp]; exact fun h => h rfl⟩)
 replace hRb := hb
 clear hb hg
 obtain ⟨W, hWW⟩ : ∃ X, X = W2 := ⟨_, rfl⟩
 subst hWW
 refine ⟨_, rfl, fun a hf => ?_⟩
 refine sv_run (v := .int .u8 (((Tr.kB 4).toNat : Nat) : Int)) hf dd (fun a hf => (ex_chr (s := mkS [Tr.kB 4]) (k := 0) hf rfl rfl rfl u9 (Nat.zero_lt_one))) (fun a hf => ?_)
 refine sv_run (v := .int .i64 4) hf dd (fun a hf => (ex_cv83 hf rfl rfl).trans (by rw [hk0])) (fun a hf => ?_)
 refine sv_build (cs := [.int .i64 4, .int .i64 0, .string ⟨#[]⟩, .slice none 0 0, .slice none 0 0]) hf rfl (by kernel_rfl) dd (fun a hf => ?_)
 refine sv_alloc (zs := [.int .i64 0, .int .i64 0, .string ⟨#[]⟩, .slice none 0 0, .slice none 0 0]) hf hX zero_val dd (fun a C2 W hC hf hX hA => ?_)
 have hneC2 : R ≠ C2 := fun e => by have := hRb.lt; omega
 have h1C2 := Nat.lt_of_lt_of_eq hU.2 hC.symm
 replace hRb := hRb.keep hA
 replace hU := hU.below hA
 clear hC hA
 refine sv_sr hf hX rfl rfl 0 rfl rfl info_val (ones_of rfl) [(C2, [.int .i64 4, .int .i64 0, .string ⟨#[]⟩, .slice none 0 0, .slice none 0 0]), (C1, [.int .i64 0, .int .i64 0, .string ⟨#[]⟩, .slice none 0 0, .slice none 0 0])] rfl (fun W hX hO => ?_)
 replace hRb := hRb.other hO hneC2
 replace hU := hU.kept (Nat.le_of_eq hO.size.symm) (hO.heap 0 (fun e => by omega)) (hO.heap 1 (fun e => by omega))
 clear hO
 refine go hf ?_
 intro a hf
 refine wp_block ?_
 refine gc hf ?_
 intro a hf
 refine sv_call hf fnOK_100 rfl (ctext_any R s hs9 (p + 1) (nd + 1) x hx post hp0 _ hRb) dd ?_
 rintro e W2 ⟨rfl, hb, hg⟩
 replace hU := hU.turn hg hR1
 replace hX := hX.grown hg (fun k e => by obtain rfl := Option.some.inj e; exact ⟨Nat.zero_le _, (by intro x hx e; simp only [List.mem_cons, List.not_mem_nil, or_false] at hx; rcases hx with rfl | rfl; exact hneC2 e.symm; exact hneC1 e.symm), fun p hp _ => by rw [List.mem_singleton.1 hp]; exact fun h => h rfl⟩)
 replace hRb := hb
 clear hb hg
 obtain ⟨W, hWW⟩ : ∃ X, X = W2 := ⟨_, rfl⟩
 subst hWW
 refine ⟨_, rfl, fun a hf => ?_⟩
 refine go hf ?_
 intro a hf
 refine sv_sc (cs' := [.int .i64 4, .int .i64 0, .string x, .slice none 0 0, .slice none 0 0]) hf hX rfl rfl 0 rfl dd rfl info_str rfl [(C2, [.int .i64 4, .int .i64 0, .string x, .slice none 0 0, .slice none 0 0]), (C1, [.int .i64 0, .int .i64 0, .string ⟨#[]⟩, .slice none 0 0, .slice none 0 0])] rfl (fun W hX hO => ?_)
 replace hRb := hRb.other hO hneC2
 replace hU := hU.kept (Nat.le_of_eq hO.size.symm) (hO.heap 0 (fun e => by omega)) (hO.heap 1 (fun e => by omega))
 clear hO
 refine go hf ?_
 intro a hf
 refine sv_call hf fnOK_58 rfl (utf_any x _ hU (by unfold maxLen; omega)) dd ?_
 rw [hval]
 rintro e W ⟨rfl, hb⟩
 replace hX := hX.keep hb
 replace hRb := hRb.keep hb
 replace hU := hU.below hb
 clear hb
 refine ⟨_, rfl, fun a hf => ?_⟩
 refine sv_call hf fnOK_96 rfl (need_any _ _) dd ?_
 rintro e W' ⟨rfl, hw⟩
 subst hw
 refine ⟨_, rfl, fun a hf => ?_⟩
 refine go hf ?_
 intro a hf
 refine sv_lr hf hX rfl 0 rfl u29 info_val dd (fun a hf => ?_)
 refine sv_sr hf hX rfl rfl 1 rfl rfl info_val (ones_of rfl) [(C2, [.int .i64 4, .int .i64 0, .string x, .slice none 0 0, .slice none 0 0]), (C1, [.int .i64 4, .int .i64 0, .string x, .slice none 0 0, .slice none 0 0])] rfl (fun W hX hO => ?_)
 replace hRb := hRb.other hO hneC1
 replace hU := hU.kept (Nat.le_of_eq hO.size.symm) (hO.heap 0 (fun e => by omega)) (hO.heap 1 (fun e => by omega))
 clear hO
 refine go hf ?_
 intro a hf
 exact bodyPost_ret (res_cellV (c := 4) (C := C1) (cs := [.int .i64 4, .int .i64 0, .string x, .slice none 0 0, .slice none 0 0]) (T := 29) rfl (hf.rel 4 _ rfl) (hX.get (i := 1) rfl) u29 info_val) hf.defers ⟨_, rfl, VAt.mk (by decide) (by decide) (by unfold maxLen; omega) (LAt.nil _ _) (FAt.nil _ _), (by rw [List.length_cons, show p + ((Tr.nb x.size ++ x.data.toList).length + 1) = p + 1 + (Tr.nb x.size ++ x.data.toList).length by omega]; exact hRb), ⟨hX.low.os, hX.low.tape, hX.low.output, (hX.bas _ List.mem_cons_self).1, fun k hk hne => (hX.bas _ List.mem_cons_self).2 k hk (fun e => hne (by rw [e]))⟩⟩
theorem rc_K7 (x : ByteArray) (hx : x.size ≤ 4096) (w : World) (R : Nat) (s : ByteArray) (p nd : Nat) (lv : Int) (post : List UInt8) (hs9 : s.size ≤ 1000000000) (hd1 : 1 ≤ lv) (hd2 : lv + (((Tr.mk 7 0 x .nil .nil).dep : Nat) : Int) ≤ 17) (hnd : nd + (Tr.mk 7 0 x .nil .nil).nod ≤ 1024) (hU : U8 w) (hR1 : 1 < R) (hp : s.data.toList.drop p = (Tr.mk 7 0 x .nil .nil).cb ++ post) (hRb : Box w R [.string s, .int .i64 (p : Int), .int .i64 (nd : Int)]) : Calls Tryz.prog 83 #[.pointer (some ⟨R, 0, none⟩), .int .i64 lv] w fun e w' => ∃ cs, e = .returned (.agg cs.toArray) ∧ VAt w' (fun k => w.heap.size ≤ k) (Tr.mk 7 0 x .nil .nil) cs ∧ Box w' R [.string s, .int .i64 ((p + (Tr.mk 7 0 x .nil .nil).cb.length : Nat) : Int), .int .i64 ((nd + (Tr.mk 7 0 x .nil .nil).nod : Nat) : Int)] ∧ w.grownBy w' (some R) := by
 have hRw := hRb.lt
 have hdp : lv ≤ 16 := by have : 1 ≤ (Tr.mk 7 0 x .nil .nil).dep := Nat.le_add_right _ _; omega
 have hnod : (Tr.mk 7 0 x .nil .nil).nod = 1 := rfl
 rw [hnod] at hnd ⊢
 have hcb : (Tr.mk 7 0 x .nil .nil).cb = (Tr.kB 7 :: (Tr.nb x.size ++ x.data.toList)) := rfl
 rw [hcb] at hp ⊢
 rw [List.cons_append] at hp
 obtain ⟨hb0, hp0⟩ := drop_one hp
 have hk0 : (((Tr.kB 7).toNat : Nat) : Int) = 7 := by decide
 have hps : p < s.size := by have := (List.getElem?_eq_some_iff.1 hb0).1; rwa [size_list] at this
 have htk1 : (s.data.toList.drop p).take 1 = [Tr.kB 7] := by rw [hp]; rfl
 refine cv2 Tryz.func83 rfl rfl rfl fun a hf => ?_
 have hX := Bx.start w
 clear hX
 have hX := Bx.bare w (fun k => k ≠ R)
 refine gc hf ?_
 intro a hf
 refine sv_alloc (zs := [.int .i64 0, .int .i64 0, .string ⟨#[]⟩, .slice none 0 0, .slice none 0 0]) hf hX zero_val dd (fun a C1 W hC hf hX hA => ?_)
 have hneC1 : R ≠ C1 := fun e => by have := hRb.lt; omega
 have h1C1 := Nat.lt_of_lt_of_eq hU.2 hC.symm
 replace hRb := hRb.keep hA
 replace hU := hU.below hA
 clear hC hA
 refine go hf ?_
 intro a hf
 refine ct hf hdp fun a hf => ?_
 refine go hf ?_
 intro a hf
 refine sv_fld hf rfl Tryz.underlying145 rfl sz_int (2) rfl dd (fun a hf => ?_)
 refine go hf ?_
 intro a hf
 refine sv_lm hf rfl (hRb.cell 2 _ rfl) u3 rfl dd (fun a hf => ?_)
 refine go hf ?_
 intro a hf
 refine sv_cmp hf rfl rfl true (congrArg some (decide_eq_true (by omega))) dd (fun a hf => ?_)
 refine go hf ?_
 intro a hf
 refine sv_call hf fnOK_96 rfl (need_any _ _) dd ?_
 rintro e W' ⟨rfl, hw⟩
 subst hw
 refine ⟨_, rfl, fun a hf => ?_⟩
 refine go hf ?_
 intro a hf
 replace hX := hX.add hRb (Nat.zero_le _) (fun x hx e => by simp only [List.mem_cons, List.not_mem_nil, or_false] at hx; rcases hx with rfl; exact hneC1 e.symm) (fun p hp _ => by rw [List.mem_singleton.1 hp]; exact fun h => h rfl)
 clear hRb
 first | refine gc hf ?_ | refine go hf ?_
 intro a hf
 refine sv_fld hf rfl Tryz.underlying145 rfl sz_int (2) rfl dd (fun a hf => ?_)
 refine go hf ?_
 intro a hf
 refine sv_add ((nd + 1 : Nat) : Int) hf rfl rfl (by rw [wrap_in (by omega)]; rfl) dd (fun a hf => ?_)
 refine go hf ?_
 intro a hf
 refine sv_fld hf rfl Tryz.underlying145 rfl sz_int (2) rfl dd (fun a hf => ?_)
 refine sv_sc (cs' := [.string s, .int .i64 (p : Int), .int .i64 ((nd + 1 : Nat) : Int)]) hf hX rfl rfl 0 rfl dd rfl info_int rfl [(R, [.string s, .int .i64 (p : Int), .int .i64 ((nd + 1 : Nat) : Int)]), (C1, [.int .i64 0, .int .i64 0, .string ⟨#[]⟩, .slice none 0 0, .slice none 0 0])] rfl (fun W hX hO => ?_)
 replace hU := hU.kept (Nat.le_of_eq hO.size.symm) (hO.heap 0 (by omega)) (hO.heap 1 (by omega))
 clear hO
 refine go hf ?_
 intro a hf
 have hRb := hX.get (i := 0) rfl
 replace hX := hX.sub
 first | refine gc hf ?_ | refine go hf ?_
 intro a hf
 refine sv_call hf fnOK_97 rfl (take_any R s hs9 p (nd + 1) 1 (by omega) _ hRb) dd ?_
 rw [htk1]
 rintro e W2 ⟨rfl, hb, hg⟩
 replace hU := hU.turn hg hR1
 replace hX := hX.grown hg (fun k e => by obtain rfl := Option.some.inj e; exact ⟨Nat.zero_le _, (by intro x hx e; simp only [List.mem_cons, List.not_mem_nil, or_false] at hx; rcases hx with rfl; exact hneC1 e.symm), fun p hp _ => by rw [List.mem_singleton.1 hp]; exact fun h => h rfl⟩)
 replace hRb := hb
 clear hb hg
 obtain ⟨W, hWW⟩ : ∃ X, X = W2 := ⟨_, rfl⟩
 subst hWW
 refine ⟨_, rfl, fun a hf => ?_⟩
 refine sv_run (v := .int .u8 (((Tr.kB 7).toNat : Nat) : Int)) hf dd (fun a hf => (ex_chr (s := mkS [Tr.kB 7]) (k := 0) hf rfl rfl rfl u9 (Nat.zero_lt_one))) (fun a hf => ?_)
 refine sv_run (v := .int .i64 7) hf dd (fun a hf => (ex_cv83 hf rfl rfl).trans (by rw [hk0])) (fun a hf => ?_)
 refine sv_build (cs := [.int .i64 7, .int .i64 0, .string ⟨#[]⟩, .slice none 0 0, .slice none 0 0]) hf rfl (by kernel_rfl) dd (fun a hf => ?_)
 refine sv_alloc (zs := [.int .i64 0, .int .i64 0, .string ⟨#[]⟩, .slice none 0 0, .slice none 0 0]) hf hX zero_val dd (fun a C2 W hC hf hX hA => ?_)
 have hneC2 : R ≠ C2 := fun e => by have := hRb.lt; omega
 have h1C2 := Nat.lt_of_lt_of_eq hU.2 hC.symm
 replace hRb := hRb.keep hA
 replace hU := hU.below hA
 clear hC hA
 refine sv_sr hf hX rfl rfl 0 rfl rfl info_val (ones_of rfl) [(C2, [.int .i64 7, .int .i64 0, .string ⟨#[]⟩, .slice none 0 0, .slice none 0 0]), (C1, [.int .i64 0, .int .i64 0, .string ⟨#[]⟩, .slice none 0 0, .slice none 0 0])] rfl (fun W hX hO => ?_)
 replace hRb := hRb.other hO hneC2
 replace hU := hU.kept (Nat.le_of_eq hO.size.symm) (hO.heap 0 (fun e => by omega)) (hO.heap 1 (fun e => by omega))
 clear hO
 refine go hf ?_
 intro a hf
 refine wp_block ?_
 refine gc hf ?_
 intro a hf
 refine sv_call hf fnOK_100 rfl (ctext_any R s hs9 (p + 1) (nd + 1) x hx post hp0 _ hRb) dd ?_
 rintro e W2 ⟨rfl, hb, hg⟩
 replace hU := hU.turn hg hR1
 replace hX := hX.grown hg (fun k e => by obtain rfl := Option.some.inj e; exact ⟨Nat.zero_le _, (by intro x hx e; simp only [List.mem_cons, List.not_mem_nil, or_false] at hx; rcases hx with rfl | rfl; exact hneC2 e.symm; exact hneC1 e.symm), fun p hp _ => by rw [List.mem_singleton.1 hp]; exact fun h => h rfl⟩)
 replace hRb := hb
 clear hb hg
 obtain ⟨W, hWW⟩ : ∃ X, X = W2 := ⟨_, rfl⟩
 subst hWW
 refine ⟨_, rfl, fun a hf => ?_⟩
 refine go hf ?_
 intro a hf
 refine sv_sc (cs' := [.int .i64 7, .int .i64 0, .string x, .slice none 0 0, .slice none 0 0]) hf hX rfl rfl 0 rfl dd rfl info_str rfl [(C2, [.int .i64 7, .int .i64 0, .string x, .slice none 0 0, .slice none 0 0]), (C1, [.int .i64 0, .int .i64 0, .string ⟨#[]⟩, .slice none 0 0, .slice none 0 0])] rfl (fun W hX hO => ?_)
 replace hRb := hRb.other hO hneC2
 replace hU := hU.kept (Nat.le_of_eq hO.size.symm) (hO.heap 0 (fun e => by omega)) (hO.heap 1 (fun e => by omega))
 clear hO
 refine go hf ?_
 intro a hf
 refine sv_lr hf hX rfl 0 rfl u29 info_val dd (fun a hf => ?_)
 refine sv_sr hf hX rfl rfl 1 rfl rfl info_val (ones_of rfl) [(C2, [.int .i64 7, .int .i64 0, .string x, .slice none 0 0, .slice none 0 0]), (C1, [.int .i64 7, .int .i64 0, .string x, .slice none 0 0, .slice none 0 0])] rfl (fun W hX hO => ?_)
 replace hRb := hRb.other hO hneC1
 replace hU := hU.kept (Nat.le_of_eq hO.size.symm) (hO.heap 0 (fun e => by omega)) (hO.heap 1 (fun e => by omega))
 clear hO
 refine go hf ?_
 intro a hf
 exact bodyPost_ret (res_cellV (c := 4) (C := C1) (cs := [.int .i64 7, .int .i64 0, .string x, .slice none 0 0, .slice none 0 0]) (T := 29) rfl (hf.rel 4 _ rfl) (hX.get (i := 1) rfl) u29 info_val) hf.defers ⟨_, rfl, VAt.mk (by decide) (by decide) (by unfold maxLen; omega) (LAt.nil _ _) (FAt.nil _ _), (by rw [List.length_cons, show p + ((Tr.nb x.size ++ x.data.toList).length + 1) = p + 1 + (Tr.nb x.size ++ x.data.toList).length by omega]; exact hRb), ⟨hX.low.os, hX.low.tape, hX.low.output, (hX.bas _ List.mem_cons_self).1, fun k hk hne => (hX.bas _ List.mem_cons_self).2 k hk (fun e => hne (by rw [e]))⟩⟩
theorem rc_K8 (x : ByteArray) (hx : x.size ≤ 4096) (h12 : x.size = 12) (w : World) (R : Nat) (s : ByteArray) (p nd : Nat) (lv : Int) (post : List UInt8) (hs9 : s.size ≤ 1000000000) (hd1 : 1 ≤ lv) (hd2 : lv + (((Tr.mk 8 0 x .nil .nil).dep : Nat) : Int) ≤ 17) (hnd : nd + (Tr.mk 8 0 x .nil .nil).nod ≤ 1024) (hU : U8 w) (hR1 : 1 < R) (hp : s.data.toList.drop p = (Tr.mk 8 0 x .nil .nil).cb ++ post) (hRb : Box w R [.string s, .int .i64 (p : Int), .int .i64 (nd : Int)]) : Calls Tryz.prog 83 #[.pointer (some ⟨R, 0, none⟩), .int .i64 lv] w fun e w' => ∃ cs, e = .returned (.agg cs.toArray) ∧ VAt w' (fun k => w.heap.size ≤ k) (Tr.mk 8 0 x .nil .nil) cs ∧ Box w' R [.string s, .int .i64 ((p + (Tr.mk 8 0 x .nil .nil).cb.length : Nat) : Int), .int .i64 ((nd + (Tr.mk 8 0 x .nil .nil).nod : Nat) : Int)] ∧ w.grownBy w' (some R) := by
 have hRw := hRb.lt
 have hdp : lv ≤ 16 := by have : 1 ≤ (Tr.mk 8 0 x .nil .nil).dep := Nat.le_add_right _ _; omega
 have hnod : (Tr.mk 8 0 x .nil .nil).nod = 1 := rfl
 rw [hnod] at hnd ⊢
 have hcb : (Tr.mk 8 0 x .nil .nil).cb = (Tr.kB 8 :: x.data.toList) := rfl
 rw [hcb] at hp ⊢
 rw [List.cons_append] at hp
 obtain ⟨hb0, hp0⟩ := drop_one hp
 have hk0 : (((Tr.kB 8).toNat : Nat) : Int) = 8 := by decide
 have hps : p < s.size := by have := (List.getElem?_eq_some_iff.1 hb0).1; rwa [size_list] at this
 have htk1 : (s.data.toList.drop p).take 1 = [Tr.kB 8] := by rw [hp]; rfl
 have hps8 : p + 1 + 12 ≤ s.size := by have h := congrArg List.length hp0; rw [List.length_drop, List.length_append, size_list, size_list] at h; omega
 have hmk : mkS ((s.data.toList.drop (p + 1)).take 12) = x := by rw [hp0, List.take_append_of_le_length (by rw [size_list]; omega), List.take_of_length_le (by rw [size_list]; omega)]; obtain ⟨⟨l⟩⟩ := x; rfl
 refine cv2 Tryz.func83 rfl rfl rfl fun a hf => ?_
 have hX := Bx.start w
 clear hX
 have hX := Bx.bare w (fun k => k ≠ R)
 refine gc hf ?_
 intro a hf
 refine sv_alloc (zs := [.int .i64 0, .int .i64 0, .string ⟨#[]⟩, .slice none 0 0, .slice none 0 0]) hf hX zero_val dd (fun a C1 W hC hf hX hA => ?_)
 have hneC1 : R ≠ C1 := fun e => by have := hRb.lt; omega
 have h1C1 := Nat.lt_of_lt_of_eq hU.2 hC.symm
 replace hRb := hRb.keep hA
 replace hU := hU.below hA
 clear hC hA
 refine go hf ?_
 intro a hf
 refine ct hf hdp fun a hf => ?_
 refine go hf ?_
 intro a hf
 refine sv_fld hf rfl Tryz.underlying145 rfl sz_int (2) rfl dd (fun a hf => ?_)
 refine go hf ?_
 intro a hf
 refine sv_lm hf rfl (hRb.cell 2 _ rfl) u3 rfl dd (fun a hf => ?_)
 refine go hf ?_
 intro a hf
 refine sv_cmp hf rfl rfl true (congrArg some (decide_eq_true (by omega))) dd (fun a hf => ?_)
 refine go hf ?_
 intro a hf
 refine sv_call hf fnOK_96 rfl (need_any _ _) dd ?_
 rintro e W' ⟨rfl, hw⟩
 subst hw
 refine ⟨_, rfl, fun a hf => ?_⟩
 refine go hf ?_
 intro a hf
 replace hX := hX.add hRb (Nat.zero_le _) (fun x hx e => by simp only [List.mem_cons, List.not_mem_nil, or_false] at hx; rcases hx with rfl; exact hneC1 e.symm) (fun p hp _ => by rw [List.mem_singleton.1 hp]; exact fun h => h rfl)
 clear hRb
 first | refine gc hf ?_ | refine go hf ?_
 intro a hf
 refine sv_fld hf rfl Tryz.underlying145 rfl sz_int (2) rfl dd (fun a hf => ?_)
 refine go hf ?_
 intro a hf
 refine sv_add ((nd + 1 : Nat) : Int) hf rfl rfl (by rw [wrap_in (by omega)]; rfl) dd (fun a hf => ?_)
 refine go hf ?_
 intro a hf
 refine sv_fld hf rfl Tryz.underlying145 rfl sz_int (2) rfl dd (fun a hf => ?_)
 refine sv_sc (cs' := [.string s, .int .i64 (p : Int), .int .i64 ((nd + 1 : Nat) : Int)]) hf hX rfl rfl 0 rfl dd rfl info_int rfl [(R, [.string s, .int .i64 (p : Int), .int .i64 ((nd + 1 : Nat) : Int)]), (C1, [.int .i64 0, .int .i64 0, .string ⟨#[]⟩, .slice none 0 0, .slice none 0 0])] rfl (fun W hX hO => ?_)
 replace hU := hU.kept (Nat.le_of_eq hO.size.symm) (hO.heap 0 (by omega)) (hO.heap 1 (by omega))
 clear hO
 refine go hf ?_
 intro a hf
 have hRb := hX.get (i := 0) rfl
 replace hX := hX.sub
 first | refine gc hf ?_ | refine go hf ?_
 intro a hf
 refine sv_call hf fnOK_97 rfl (take_any R s hs9 p (nd + 1) 1 (by omega) _ hRb) dd ?_
 rw [htk1]
 rintro e W2 ⟨rfl, hb, hg⟩
 replace hU := hU.turn hg hR1
 replace hX := hX.grown hg (fun k e => by obtain rfl := Option.some.inj e; exact ⟨Nat.zero_le _, (by intro x hx e; simp only [List.mem_cons, List.not_mem_nil, or_false] at hx; rcases hx with rfl; exact hneC1 e.symm), fun p hp _ => by rw [List.mem_singleton.1 hp]; exact fun h => h rfl⟩)
 replace hRb := hb
 clear hb hg
 obtain ⟨W, hWW⟩ : ∃ X, X = W2 := ⟨_, rfl⟩
 subst hWW
 refine ⟨_, rfl, fun a hf => ?_⟩
 refine sv_run (v := .int .u8 (((Tr.kB 8).toNat : Nat) : Int)) hf dd (fun a hf => (ex_chr (s := mkS [Tr.kB 8]) (k := 0) hf rfl rfl rfl u9 (Nat.zero_lt_one))) (fun a hf => ?_)
 refine sv_run (v := .int .i64 8) hf dd (fun a hf => (ex_cv83 hf rfl rfl).trans (by rw [hk0])) (fun a hf => ?_)
 refine sv_build (cs := [.int .i64 8, .int .i64 0, .string ⟨#[]⟩, .slice none 0 0, .slice none 0 0]) hf rfl (by kernel_rfl) dd (fun a hf => ?_)
 refine sv_alloc (zs := [.int .i64 0, .int .i64 0, .string ⟨#[]⟩, .slice none 0 0, .slice none 0 0]) hf hX zero_val dd (fun a C2 W hC hf hX hA => ?_)
 have hneC2 : R ≠ C2 := fun e => by have := hRb.lt; omega
 have h1C2 := Nat.lt_of_lt_of_eq hU.2 hC.symm
 replace hRb := hRb.keep hA
 replace hU := hU.below hA
 clear hC hA
 refine sv_sr hf hX rfl rfl 0 rfl rfl info_val (ones_of rfl) [(C2, [.int .i64 8, .int .i64 0, .string ⟨#[]⟩, .slice none 0 0, .slice none 0 0]), (C1, [.int .i64 0, .int .i64 0, .string ⟨#[]⟩, .slice none 0 0, .slice none 0 0])] rfl (fun W hX hO => ?_)
 replace hRb := hRb.other hO hneC2
 replace hU := hU.kept (Nat.le_of_eq hO.size.symm) (hO.heap 0 (fun e => by omega)) (hO.heap 1 (fun e => by omega))
 clear hO
 refine go hf ?_
 intro a hf
 refine wp_block ?_
 refine gc hf ?_
 intro a hf
 refine sv_call hf fnOK_97 rfl (take_any R s hs9 (p + 1) (nd + 1) 12 hps8 _ hRb) dd ?_
 rw [hmk]
 rintro e W2 ⟨rfl, hb, hg⟩
 replace hU := hU.turn hg hR1
 replace hX := hX.grown hg (fun k e => by obtain rfl := Option.some.inj e; exact ⟨Nat.zero_le _, (by intro x hx e; simp only [List.mem_cons, List.not_mem_nil, or_false] at hx; rcases hx with rfl | rfl; exact hneC2 e.symm; exact hneC1 e.symm), fun p hp _ => by rw [List.mem_singleton.1 hp]; exact fun h => h rfl⟩)
 replace hRb := hb
 clear hb hg
 obtain ⟨W, hWW⟩ : ∃ X, X = W2 := ⟨_, rfl⟩
 subst hWW
 refine ⟨_, rfl, fun a hf => ?_⟩
 refine go hf ?_
 intro a hf
 refine sv_sc (cs' := [.int .i64 8, .int .i64 0, .string x, .slice none 0 0, .slice none 0 0]) hf hX rfl rfl 0 rfl dd rfl info_str rfl [(C2, [.int .i64 8, .int .i64 0, .string x, .slice none 0 0, .slice none 0 0]), (C1, [.int .i64 0, .int .i64 0, .string ⟨#[]⟩, .slice none 0 0, .slice none 0 0])] rfl (fun W hX hO => ?_)
 replace hRb := hRb.other hO hneC2
 replace hU := hU.kept (Nat.le_of_eq hO.size.symm) (hO.heap 0 (fun e => by omega)) (hO.heap 1 (fun e => by omega))
 clear hO
 refine go hf ?_
 intro a hf
 refine sv_lr hf hX rfl 0 rfl u29 info_val dd (fun a hf => ?_)
 refine sv_sr hf hX rfl rfl 1 rfl rfl info_val (ones_of rfl) [(C2, [.int .i64 8, .int .i64 0, .string x, .slice none 0 0, .slice none 0 0]), (C1, [.int .i64 8, .int .i64 0, .string x, .slice none 0 0, .slice none 0 0])] rfl (fun W hX hO => ?_)
 replace hRb := hRb.other hO hneC1
 replace hU := hU.kept (Nat.le_of_eq hO.size.symm) (hO.heap 0 (fun e => by omega)) (hO.heap 1 (fun e => by omega))
 clear hO
 refine go hf ?_
 intro a hf
 exact bodyPost_ret (res_cellV (c := 4) (C := C1) (cs := [.int .i64 8, .int .i64 0, .string x, .slice none 0 0, .slice none 0 0]) (T := 29) rfl (hf.rel 4 _ rfl) (hX.get (i := 1) rfl) u29 info_val) hf.defers ⟨_, rfl, VAt.mk (by decide) (by decide) (by unfold maxLen; omega) (LAt.nil _ _) (FAt.nil _ _), (by rw [List.length_cons, size_list, h12]; exact hRb), ⟨hX.low.os, hX.low.tape, hX.low.output, (hX.bas _ List.mem_cons_self).1, fun k hk hne => (hX.bas _ List.mem_cons_self).2 k hk (fun e => hne (by rw [e]))⟩⟩
theorem rc_K6 {n0 : Nat} (hn : RcC n0) (lt : Tr) (hlL : lt.isL = true) (hsz : lt.sz ≤ n0 + 1) (hls : lt.snd = true) (hwt : wfT lt) (hlen : lt.len ≤ maxLen) (w : World) (R : Nat) (s : ByteArray) (p nd : Nat) (lv : Int) (post : List UInt8) (hs9 : s.size ≤ 1000000000) (hd1 : 1 ≤ lv) (hd2 : lv + (((Tr.mk 6 0 ⟨#[]⟩ lt .nil).dep : Nat) : Int) ≤ 17) (hnd : nd + (Tr.mk 6 0 ⟨#[]⟩ lt .nil).nod ≤ 1024) (hU : U8 w) (hR1 : 1 < R) (hp : s.data.toList.drop p = (Tr.mk 6 0 ⟨#[]⟩ lt .nil).cb ++ post) (hRb : Box w R [.string s, .int .i64 (p : Int), .int .i64 (nd : Int)]) : Calls Tryz.prog 83 #[.pointer (some ⟨R, 0, none⟩), .int .i64 lv] w fun e w' => ∃ cs, e = .returned (.agg cs.toArray) ∧ VAt w' (fun k => w.heap.size ≤ k) (Tr.mk 6 0 ⟨#[]⟩ lt .nil) cs ∧ Box w' R [.string s, .int .i64 ((p + (Tr.mk 6 0 ⟨#[]⟩ lt .nil).cb.length : Nat) : Int), .int .i64 ((nd + (Tr.mk 6 0 ⟨#[]⟩ lt .nil).nod : Nat) : Int)] ∧ w.grownBy w' (some R) := by
 have hRw := hRb.lt
 have hdp : lv ≤ 16 := by have : 1 ≤ (Tr.mk 6 0 ⟨#[]⟩ lt .nil).dep := Nat.le_add_right _ _; omega
 have hnod : (Tr.mk 6 0 ⟨#[]⟩ lt .nil).nod = 1 + lt.nod := rfl
 have hdep : (Tr.mk 6 0 ⟨#[]⟩ lt .nil).dep = 1 + lt.dep := rfl
 rw [hnod] at hnd ⊢
 have hcb : (Tr.mk 6 0 ⟨#[]⟩ lt .nil).cb = (Tr.kB 6 :: (Tr.nb lt.len ++ lt.cb)) := rfl
 rw [hcb] at hp ⊢
 rw [List.cons_append] at hp
 obtain ⟨hb0, hp0⟩ := drop_one hp
 have hk0 : (((Tr.kB 6).toNat : Nat) : Int) = 6 := by decide
 have hps : p < s.size := by have := (List.getElem?_eq_some_iff.1 hb0).1; rwa [size_list] at this
 have htk1 : (s.data.toList.drop p).take 1 = [Tr.kB 6] := by rw [hp]; rfl
 rw [List.append_assoc] at hp0
 refine cv2 Tryz.func83 rfl rfl rfl fun a hf => ?_
 have hX := Bx.start w
 clear hX
 have hX := Bx.bare w (fun k => k ≠ R)
 refine gc hf ?_
 intro a hf
 refine sv_alloc (zs := [.int .i64 0, .int .i64 0, .string ⟨#[]⟩, .slice none 0 0, .slice none 0 0]) hf hX zero_val dd (fun a C1 W hC hf hX hA => ?_)
 have hneC1 : R ≠ C1 := fun e => by have := hRb.lt; omega
 have h1C1 := Nat.lt_of_lt_of_eq hU.2 hC.symm
 replace hRb := hRb.keep hA
 replace hU := hU.below hA
 clear hC hA
 refine go hf ?_
 intro a hf
 refine ct hf hdp fun a hf => ?_
 refine go hf ?_
 intro a hf
 refine sv_fld hf rfl Tryz.underlying145 rfl sz_int (2) rfl dd (fun a hf => ?_)
 refine go hf ?_
 intro a hf
 refine sv_lm hf rfl (hRb.cell 2 _ rfl) u3 rfl dd (fun a hf => ?_)
 refine go hf ?_
 intro a hf
 refine sv_cmp hf rfl rfl true (congrArg some (decide_eq_true (by omega))) dd (fun a hf => ?_)
 refine go hf ?_
 intro a hf
 refine sv_call hf fnOK_96 rfl (need_any _ _) dd ?_
 rintro e W' ⟨rfl, hw⟩
 subst hw
 refine ⟨_, rfl, fun a hf => ?_⟩
 refine go hf ?_
 intro a hf
 replace hX := hX.add hRb (Nat.zero_le _) (fun x hx e => by simp only [List.mem_cons, List.not_mem_nil, or_false] at hx; rcases hx with rfl; exact hneC1 e.symm) (fun p hp _ => by rw [List.mem_singleton.1 hp]; exact fun h => h rfl)
 clear hRb
 first | refine gc hf ?_ | refine go hf ?_
 intro a hf
 refine sv_fld hf rfl Tryz.underlying145 rfl sz_int (2) rfl dd (fun a hf => ?_)
 refine go hf ?_
 intro a hf
 refine sv_add ((nd + 1 : Nat) : Int) hf rfl rfl (by rw [wrap_in (by omega)]; rfl) dd (fun a hf => ?_)
 refine go hf ?_
 intro a hf
 refine sv_fld hf rfl Tryz.underlying145 rfl sz_int (2) rfl dd (fun a hf => ?_)
 refine sv_sc (cs' := [.string s, .int .i64 (p : Int), .int .i64 ((nd + 1 : Nat) : Int)]) hf hX rfl rfl 0 rfl dd rfl info_int rfl [(R, [.string s, .int .i64 (p : Int), .int .i64 ((nd + 1 : Nat) : Int)]), (C1, [.int .i64 0, .int .i64 0, .string ⟨#[]⟩, .slice none 0 0, .slice none 0 0])] rfl (fun W hX hO => ?_)
 replace hU := hU.kept (Nat.le_of_eq hO.size.symm) (hO.heap 0 (by omega)) (hO.heap 1 (by omega))
 clear hO
 refine go hf ?_
 intro a hf
 have hRb := hX.get (i := 0) rfl
 replace hX := hX.sub
 first | refine gc hf ?_ | refine go hf ?_
 intro a hf
 refine sv_call hf fnOK_97 rfl (take_any R s hs9 p (nd + 1) 1 (by omega) _ hRb) dd ?_
 rw [htk1]
 rintro e W2 ⟨rfl, hb, hg⟩
 replace hU := hU.turn hg hR1
 replace hX := hX.grown hg (fun k e => by obtain rfl := Option.some.inj e; exact ⟨Nat.zero_le _, (by intro x hx e; simp only [List.mem_cons, List.not_mem_nil, or_false] at hx; rcases hx with rfl; exact hneC1 e.symm), fun p hp _ => by rw [List.mem_singleton.1 hp]; exact fun h => h rfl⟩)
 replace hRb := hb
 clear hb hg
 obtain ⟨W, hWW⟩ : ∃ X, X = W2 := ⟨_, rfl⟩
 subst hWW
 refine ⟨_, rfl, fun a hf => ?_⟩
 refine sv_run (v := .int .u8 (((Tr.kB 6).toNat : Nat) : Int)) hf dd (fun a hf => (ex_chr (s := mkS [Tr.kB 6]) (k := 0) hf rfl rfl rfl u9 (Nat.zero_lt_one))) (fun a hf => ?_)
 refine sv_run (v := .int .i64 6) hf dd (fun a hf => (ex_cv83 hf rfl rfl).trans (by rw [hk0])) (fun a hf => ?_)
 refine sv_build (cs := [.int .i64 6, .int .i64 0, .string ⟨#[]⟩, .slice none 0 0, .slice none 0 0]) hf rfl (by kernel_rfl) dd (fun a hf => ?_)
 refine sv_alloc (zs := [.int .i64 0, .int .i64 0, .string ⟨#[]⟩, .slice none 0 0, .slice none 0 0]) hf hX zero_val dd (fun a C2 W hC hf hX hA => ?_)
 have hneC2 : R ≠ C2 := fun e => by have := hRb.lt; omega
 have h1C2 := Nat.lt_of_lt_of_eq hU.2 hC.symm
 replace hRb := hRb.keep hA
 replace hU := hU.below hA
 clear hC hA
 refine sv_sr hf hX rfl rfl 0 rfl rfl info_val (ones_of rfl) [(C2, [.int .i64 6, .int .i64 0, .string ⟨#[]⟩, .slice none 0 0, .slice none 0 0]), (C1, [.int .i64 0, .int .i64 0, .string ⟨#[]⟩, .slice none 0 0, .slice none 0 0])] rfl (fun W hX hO => ?_)
 replace hRb := hRb.other hO hneC2
 replace hU := hU.kept (Nat.le_of_eq hO.size.symm) (hO.heap 0 (fun e => by omega)) (hO.heap 1 (fun e => by omega))
 clear hO
 refine go hf ?_
 intro a hf
 refine wp_block ?_
 refine gc hf ?_
 intro a hf
 refine sv_call hf fnOK_99 rfl (count_any R s hs9 (p + 1) (nd + 1) (lt.len : Int) (wf_nat (by unfold maxLen at hlen; omega)) (by omega) _ hp0 _ hRb) dd ?_
 rintro e W2 ⟨rfl, hb, hg⟩
 replace hU := hU.turn hg hR1
 replace hX := hX.grown hg (fun k e => by obtain rfl := Option.some.inj e; exact ⟨Nat.zero_le _, (by intro x hx e; simp only [List.mem_cons, List.not_mem_nil, or_false] at hx; rcases hx with rfl | rfl; exact hneC2 e.symm; exact hneC1 e.symm), fun p hp _ => by rw [List.mem_singleton.1 hp]; exact fun h => h rfl⟩)
 replace hRb := hb
 clear hb hg
 obtain ⟨W, hWW⟩ : ∃ X, X = W2 := ⟨_, rfl⟩
 subst hWW
 refine ⟨_, rfl, fun a hf => ?_⟩
 refine go hf ?_
 intro a hf
 have hp2 := drop_next hp0
 rw [cbl_lst lt hlL] at hp2
 have hll : lt.len = lt.lst.length := rfl
 have hsumle : lt.len ≤ 1024 := by have := lst_nod lt hwt hlL; omega
 refine wp_block (wp_loop (fun a X => ∃ (q pos nj : Nat) (vx : Value), FrV 100 [(0, .pointer (some ⟨R, 0, none⟩)), (1, .int .i64 lv), (4, .pointer (some ⟨C1, 0, none⟩)), (5, .pointer (some ⟨C2, 0, none⟩)), (79, .int .i64 ((lt.len : Nat) : Int)), (80, .int .i64 (q : Int))] a ∧ Bx ⟨bare w, [(w, fun k => k ≠ R)]⟩ [(C2, [.int .i64 6, .int .i64 0, .string ⟨#[]⟩, vx, .slice none 0 0]), (C1, [.int .i64 0, .int .i64 0, .string ⟨#[]⟩, .slice none 0 0, .slice none 0 0])] X ∧ q ≤ lt.len ∧ s.data.toList.drop pos = (lt.lst.drop q).flatMap Tr.cb ++ post ∧ pos = p + 1 + (Tr.nb lt.len).length + ((lt.lst.take q).flatMap Tr.cb).length ∧ nj + ((lt.lst.drop q).map Tr.nod).sum = nd + 1 + lt.nod ∧ Box X R [.string s, .int .i64 (pos : Int), .int .i64 (nj : Int)] ∧ U8 X ∧ RowE VAt 29 5 w.heap.size (fun x => x = C2 ∨ x = C1) X vx (lt.lst.take q)) (fun a _ => lt.len - (intOf (a.eval (.tmp 80))).toNat) ⟨0, p + 1 + (Tr.nb lt.len).length, nd + 1, _, hf.sub (sub_cons rfl (sub_cons rfl (sub_cons rfl (sub_cons rfl (sub_cons rfl (sub_cons rfl (sub_nil))))))), hX, Nat.zero_le _, (by rw [List.drop_zero]; exact hp2), rfl, (by rw [List.drop_zero, Tr.nod_lst lt (.inl hlL)]), hRb, hU, RowE.nil W⟩ ?_)
 clear hf hX hRb hU
 rintro a W ⟨q, pos, nj, vx, hf, hX, hq, hdr, hpos, hsum, hRb, hU, hL⟩
 have hm80 : a.eval (.tmp 80) = .int .i64 (q : Int) := hf.rel 80 _ rfl
 rcases Decidable.em ((q : Int) < ((lt.len : Nat) : Int)) with hgo | hgo
 ·
  refine gc hf ?_
  intro a hf
  refine ct hf hgo fun a hf => ?_
  refine go hf ?_
  intro a hf
  refine wp_block ?_
  have hjl : q < lt.lst.length := by omega
  obtain ⟨t, hpt⟩ : ∃ t, lt.lst[q]? = some t := ⟨_, List.getElem?_eq_getElem hjl⟩
  have hdj : lt.lst.drop q = t :: lt.lst.drop (q + 1) := by rw [List.drop_eq_getElem_cons hjl]; congr 1; exact Option.some.inj ((List.getElem?_eq_getElem hjl).symm.trans hpt)
  have htk : lt.lst.take q ++ [t] = lt.lst.take (q + 1) := by rw [List.take_add_one, hpt]; rfl
  have hst : ((lt.lst.take (q + 1)).flatMap Tr.cb).length = ((lt.lst.take q).flatMap Tr.cb).length + t.cb.length := by rw [flat_step hpt, List.length_append]
  rw [hdj, List.map_cons, List.sum_cons] at hsum
  rw [hdj, List.flatMap_cons, List.append_assoc] at hdr
  have hdr4 := drop_next hdr
  have htl := List.mem_of_getElem? hpt
  have htsz := Tr.sz_lst lt t htl
  have hdl := dep_le lt t htl
  have hts := snd_of lt t hls htl
  obtain ⟨htw, htv⟩ := wfT_lst lt hwt t htl
  have hcnt : (lt.lst.take q).length < 1000000000 := by rw [List.length_take]; have := hsumle; omega
  refine wp_region_ordW 10 9 [(0, 0), (1, 1), (2, 0), (3, 0), (4, 0), (5, 2), (6, 2), (7, 2), (8, 0), (9, 3)] (fun X => Bx ⟨bare w, [(w, fun k => k ≠ R)]⟩ [(C2, [.int .i64 6, .int .i64 0, .string ⟨#[]⟩, vx, .slice none 0 0]), (C1, [.int .i64 0, .int .i64 0, .string ⟨#[]⟩, .slice none 0 0, .slice none 0 0])] X) mixed (by kernel_rfl) hX.drew (fun c a d v w h => by cases d <;> exact h) ?_
  replace hX := hX.drew
  replace hRb := hRb.drew
  replace hU := hU.below (Below.refl _ _).drew
  replace hL := hL.below ekV (Below.refl _ _).drew
  refine o0 hf fun a hf => ?_
  refine ov1 (v := vx) hf rfl rfl dd rfl (fun X hS => ex_vlc (cs := [.int .i64 6, .int .i64 0, .string ⟨#[]⟩, vx, .slice none 0 0]) hf rfl rfl (hS.get (i := 0) rfl) rfl u26 rfl) (fun a hf => ?_)
  refine o0 hf fun a hf => ?_
  refine o0 hf fun a hf => ?_
  refine ov0 (v := .int .i64 (lv + 1)) hf rfl rfl dd rfl (fun X => ex_addk hf rfl rfl rfl (wrap_in (by omega))) (fun a hf => ?_)
  have hlC2 := (hX.get (i := 0) rfl).lt
  have hlC1 := (hX.get (i := 1) rfl).lt
  refine ov2c hf rfl rfl dd rfl rfl fnOK_83 rfl (hn t (by omega) htv _ R s pos nj (lv + 1) ((lt.lst.drop (q + 1)).flatMap Tr.cb ++ post) hs9 hts htw (by omega) (by rw [hdep] at hd2; omega) (by omega) hU hR1 hdr hRb) ?_
  rintro e W2 ⟨cs, rfl, hvt, hb, hg⟩
  have hG : ∀ x, _ ≤ x → w.heap.size ≤ x ∧ vx.ownBlock ≠ some x ∧ ¬ (x = C2 ∨ x = C1) := fun x hx => ⟨Nat.le_trans (hX.bas _ List.mem_cons_self).1 hx, fun e => absurd (hL.own x e).2.1 (Nat.not_lt_of_le hx), fun e => by rcases e with rfl | rfl; exact absurd hlC2 (Nat.not_lt_of_le hx); exact absurd hlC1 (Nat.not_lt_of_le hx)⟩
  replace hU := hU.turn hg hR1
  replace hL := hL.grown ekV hg hRw
  replace hX := hX.grown hg (fun k e => by obtain rfl := Option.some.inj e; exact ⟨Nat.zero_le _, (by intro x hx e; simp only [List.mem_cons, List.not_mem_nil, or_false] at hx; rcases hx with rfl | rfl; exact hneC2 e.symm; exact hneC1 e.symm), fun p hp _ => by rw [List.mem_singleton.1 hp]; exact fun h => h rfl⟩)
  replace hRb := hb
  clear hb hg
  obtain ⟨W, hWW⟩ : ∃ X, X = W2 := ⟨_, rfl⟩
  subst hWW
  refine ⟨_, rfl, hX, fun a hf => ?_⟩
  have hcs5 := hvt.len
  have hones5 := hvt.ones
  refine ov2_bsE (cs := cs) hf hX rfl rfl dd rfl rfl rfl u26 zB_val info_val hcs5 dd dd (fun _ h => h) (fun a G3 W hC hf hX hA => ?_)
  replace hRb := hRb.keep hA
  replace hL := hL.below ekV hA
  replace hvt := hvt.below hA
  replace hU := hU.below hA
  clear hC hA
  replace hX : Bx ⟨bare w, [(w, fun k => k ≠ R)]⟩ [(G3, cs), (C2, [.int .i64 6, .int .i64 0, .string ⟨#[]⟩, vx, .slice none 0 0]), (C1, [.int .i64 0, .int .i64 0, .string ⟨#[]⟩, .slice none 0 0, .slice none 0 0])] W := hX
  have hlC2 := (hX.get (i := 1) rfl).lt
  have hlC1 := (hX.get (i := 2) rfl).lt
  refine ov2_appE (pe := t) ekV hf hX rfl rfl dd rfl rfl rfl rfl u26 einfo3_val rfl dd hcs5 hones5 hcnt dd hL ((hX.bas _ List.mem_cons_self).1) hvt hG (by intro x hx; rcases hx with rfl | rfl; exact hlC2; exact hlC1) (by intro x hx; simp only [List.mem_cons, List.not_mem_nil, or_false] at hx; rcases hx with rfl | rfl; exact Or.inl rfl; exact Or.inr rfl) (Nat.zero_le _) (fun p hp => by rw [List.mem_singleton.1 hp]; exact Nat.le_refl _) (fun _ h => h) (fun a v4 W hf hX hL2 hg => ?_)
  replace hRb := hRb.grow_own hg (fun x hx => (hL.own x hx).1) hRw
  replace hU := hU.kept hg.size (hg.block 0 (Nat.lt_trans (by decide) hU.2) (fun e => by have := (hL.own 0 e.symm).1; omega)) (hg.block 1 hU.2 (fun e => by have := (hL.own 1 e.symm).1; omega))
  replace hL := hL2
  clear hL2 hg
  obtain ⟨a_v4, c_v4, e_v4⟩ := hL.sl
  subst e_v4
  refine o0 hf fun a hf => ?_
  have hbS := hX.get (i := 0) (C := C2) (cs := [.int .i64 6, .int .i64 0, .string ⟨#[]⟩, vx, .slice none 0 0]) rfl
  refine ov3 rfl rfl rfl (ex_store_cell _ _ _ C2 3 (.slice a_v4 ((lt.lst.take q ++ [t]).length) c_v4) rfl (hf.ev rfl) (hf.ev rfl) (hbS.there 3 1 dd) info_vals rfl) ?_
  replace hX := hX.set (i := 0) rfl (hbS.setCell 3 (.slice a_v4 ((lt.lst.take q ++ [t]).length) c_v4) (of_decide_eq_true rfl)) (Only.setCell _ C2 3 _)
  have hO := Only.setCell W C2 3 (.slice a_v4 ((lt.lst.take q ++ [t]).length) c_v4)
  replace hRb := hRb.other hO hneC2
  replace hU := hU.kept (Nat.le_of_eq hO.size.symm) (hO.heap 0 (fun e => by omega)) (hO.heap 1 (fun e => by omega))
  replace hL := hL.only ekV hO (Or.inl rfl)
  replace hRb : Box (World.setCells W C2 3 [.slice a_v4 ((lt.lst.take q ++ [t]).length) c_v4]) _ _ := hRb
  replace hL : RowE _ _ _ _ _ (World.setCells W C2 3 [.slice a_v4 ((lt.lst.take q ++ [t]).length) c_v4]) _ _ := hL
  replace hU : U8 (World.setCells W C2 3 [.slice a_v4 ((lt.lst.take q ++ [t]).length) c_v4]) := hU
  clear hO
  clear hbS
  refine wpOrd_nil ?_
  refine gc hf ?_
  intro a hf
  refine sv_add ((q + 1 : Nat) : Int) hf rfl rfl (by rw [wrap_in (by omega)]; rfl) dd (fun a hf => ?_)
  refine go hf ?_
  intro a hf
  rw [htk] at hL hRb hX hU ⊢
  refine ⟨⟨q + 1, _, _, _, hf.sub (sub_cons rfl (sub_cons rfl (sub_cons rfl (sub_cons rfl (sub_cons rfl (sub_cons rfl (sub_nil))))))), hX, by omega, hdr4, by omega, by omega, hRb, hU, hL⟩, ?_⟩
  have h5 : a.eval (.tmp 80) = .int .i64 ((q + 1 : Nat) : Int) := hf.rel 80 _ rfl
  rw [h5, hm80]; simp only [intOf, Int.toNat_natCast]; omega
 ·
  refine gc hf ?_
  intro a hf
  refine cf hf hgo fun a hf => ?_
  refine go hf ?_
  intro a hf
  refine wp_exit ?_
  simp only [Exit.inBlock, Exit.then, ↓reduceIte]
  obtain rfl : q = lt.lst.length := by omega
  rw [List.take_length] at hL hpos
  rw [List.drop_length] at hsum
  have hsum2 : nj = nd + 1 + lt.nod := hsum
  obtain ⟨va, vc, hva⟩ := hL.sl
  subst hva
  refine gc hf ?_
  intro a hf
  refine sv_lr hf hX rfl 0 rfl u29 info_val dd (fun a hf => ?_)
  refine sv_sr hf hX rfl rfl 1 rfl rfl info_val (ones_of rfl) [(C2, [.int .i64 6, .int .i64 0, .string ⟨#[]⟩, .slice va lt.lst.length vc, .slice none 0 0]), (C1, [.int .i64 6, .int .i64 0, .string ⟨#[]⟩, .slice va lt.lst.length vc, .slice none 0 0])] rfl (fun W hX hO => ?_)
  replace hRb := hRb.other hO hneC1
  replace hU := hU.kept (Nat.le_of_eq hO.size.symm) (hO.heap 0 (fun e => by omega)) (hO.heap 1 (fun e => by omega))
  replace hL := hL.only ekV hO (Or.inr rfl)
  clear hO
  refine go hf ?_
  intro a hf
  have hfin := hL.lat
  rw [ofL_lst _ hlL] at hfin
  exact bodyPost_ret (res_cellV (c := 4) (C := C1) (cs := [.int .i64 6, .int .i64 0, .string ⟨#[]⟩, .slice va lt.lst.length vc, .slice none 0 0]) (T := 29) rfl (hf.rel 4 _ rfl) (hX.get (i := 1) rfl) u29 info_val) hf.defers ⟨_, rfl, VAt.mk (by decide) (by decide) (by decide) hfin (FAt.nil _ _), (by rw [cbl_lst lt hlL, List.length_cons, List.length_append, show p + ((Tr.nb lt.len).length + (lt.lst.flatMap Tr.cb).length + 1) = pos by omega, show nd + (1 + lt.nod) = nj by omega]; exact hRb), ⟨hX.low.os, hX.low.tape, hX.low.output, (hX.bas _ List.mem_cons_self).1, fun k hk hne => (hX.bas _ List.mem_cons_self).2 k hk (fun e => hne (by rw [e]))⟩⟩
theorem rc_K5 {n0 : Nat} (hn : RcC n0) (dt : Tr) (hlF : dt.isF = true) (hsz : dt.sz ≤ n0 + 1) (hls : dt.snd = true) (hnm : Tr.nmsOK [] dt.nms = true) (hwt : wfT dt) (hlen : dt.len ≤ maxLen) (w : World) (R : Nat) (s : ByteArray) (p nd : Nat) (lv : Int) (post : List UInt8) (hs9 : s.size ≤ 1000000000) (hd1 : 1 ≤ lv) (hd2 : lv + (((Tr.mk 5 0 ⟨#[]⟩ .nil dt).dep : Nat) : Int) ≤ 17) (hnd : nd + (Tr.mk 5 0 ⟨#[]⟩ .nil dt).nod ≤ 1024) (hU : U8 w) (hR1 : 1 < R) (hp : s.data.toList.drop p = (Tr.mk 5 0 ⟨#[]⟩ .nil dt).cb ++ post) (hRb : Box w R [.string s, .int .i64 (p : Int), .int .i64 (nd : Int)]) : Calls Tryz.prog 83 #[.pointer (some ⟨R, 0, none⟩), .int .i64 lv] w fun e w' => ∃ cs, e = .returned (.agg cs.toArray) ∧ VAt w' (fun k => w.heap.size ≤ k) (Tr.mk 5 0 ⟨#[]⟩ .nil dt) cs ∧ Box w' R [.string s, .int .i64 ((p + (Tr.mk 5 0 ⟨#[]⟩ .nil dt).cb.length : Nat) : Int), .int .i64 ((nd + (Tr.mk 5 0 ⟨#[]⟩ .nil dt).nod : Nat) : Int)] ∧ w.grownBy w' (some R) := by
 have hRw := hRb.lt
 have hdp : lv ≤ 16 := by have : 1 ≤ (Tr.mk 5 0 ⟨#[]⟩ .nil dt).dep := Nat.le_add_right _ _; omega
 have hnod : (Tr.mk 5 0 ⟨#[]⟩ .nil dt).nod = 1 + dt.nod := rfl
 have hdep : (Tr.mk 5 0 ⟨#[]⟩ .nil dt).dep = 1 + dt.dep := rfl
 rw [hnod] at hnd ⊢
 have hcb : (Tr.mk 5 0 ⟨#[]⟩ .nil dt).cb = (Tr.kB 5 :: (Tr.nb dt.len ++ dt.cb)) := rfl
 rw [hcb] at hp ⊢
 rw [List.cons_append] at hp
 obtain ⟨hb0, hp0⟩ := drop_one hp
 have hk0 : (((Tr.kB 5).toNat : Nat) : Int) = 5 := by decide
 have hps : p < s.size := by have := (List.getElem?_eq_some_iff.1 hb0).1; rwa [size_list] at this
 have htk1 : (s.data.toList.drop p).take 1 = [Tr.kB 5] := by rw [hp]; rfl
 refine cv2 Tryz.func83 rfl rfl rfl fun a hf => ?_
 have hX := Bx.start w
 clear hX
 have hX := Bx.bare w (fun k => k ≠ R)
 refine gc hf ?_
 intro a hf
 refine sv_alloc (zs := [.int .i64 0, .int .i64 0, .string ⟨#[]⟩, .slice none 0 0, .slice none 0 0]) hf hX zero_val dd (fun a C1 W hC hf hX hA => ?_)
 have hneC1 : R ≠ C1 := fun e => by have := hRb.lt; omega
 have h1C1 := Nat.lt_of_lt_of_eq hU.2 hC.symm
 replace hRb := hRb.keep hA
 replace hU := hU.below hA
 clear hC hA
 refine go hf ?_
 intro a hf
 refine ct hf hdp fun a hf => ?_
 refine go hf ?_
 intro a hf
 refine sv_fld hf rfl Tryz.underlying145 rfl sz_int (2) rfl dd (fun a hf => ?_)
 refine go hf ?_
 intro a hf
 refine sv_lm hf rfl (hRb.cell 2 _ rfl) u3 rfl dd (fun a hf => ?_)
 refine go hf ?_
 intro a hf
 refine sv_cmp hf rfl rfl true (congrArg some (decide_eq_true (by omega))) dd (fun a hf => ?_)
 refine go hf ?_
 intro a hf
 refine sv_call hf fnOK_96 rfl (need_any _ _) dd ?_
 rintro e W' ⟨rfl, hw⟩
 subst hw
 refine ⟨_, rfl, fun a hf => ?_⟩
 refine go hf ?_
 intro a hf
 replace hX := hX.add hRb (Nat.zero_le _) (fun x hx e => by simp only [List.mem_cons, List.not_mem_nil, or_false] at hx; rcases hx with rfl; exact hneC1 e.symm) (fun p hp _ => by rw [List.mem_singleton.1 hp]; exact fun h => h rfl)
 clear hRb
 first | refine gc hf ?_ | refine go hf ?_
 intro a hf
 refine sv_fld hf rfl Tryz.underlying145 rfl sz_int (2) rfl dd (fun a hf => ?_)
 refine go hf ?_
 intro a hf
 refine sv_add ((nd + 1 : Nat) : Int) hf rfl rfl (by rw [wrap_in (by omega)]; rfl) dd (fun a hf => ?_)
 refine go hf ?_
 intro a hf
 refine sv_fld hf rfl Tryz.underlying145 rfl sz_int (2) rfl dd (fun a hf => ?_)
 refine sv_sc (cs' := [.string s, .int .i64 (p : Int), .int .i64 ((nd + 1 : Nat) : Int)]) hf hX rfl rfl 0 rfl dd rfl info_int rfl [(R, [.string s, .int .i64 (p : Int), .int .i64 ((nd + 1 : Nat) : Int)]), (C1, [.int .i64 0, .int .i64 0, .string ⟨#[]⟩, .slice none 0 0, .slice none 0 0])] rfl (fun W hX hO => ?_)
 replace hU := hU.kept (Nat.le_of_eq hO.size.symm) (hO.heap 0 (by omega)) (hO.heap 1 (by omega))
 clear hO
 refine go hf ?_
 intro a hf
 have hRb := hX.get (i := 0) rfl
 replace hX := hX.sub
 first | refine gc hf ?_ | refine go hf ?_
 intro a hf
 refine sv_call hf fnOK_97 rfl (take_any R s hs9 p (nd + 1) 1 (by omega) _ hRb) dd ?_
 rw [htk1]
 rintro e W2 ⟨rfl, hb, hg⟩
 replace hU := hU.turn hg hR1
 replace hX := hX.grown hg (fun k e => by obtain rfl := Option.some.inj e; exact ⟨Nat.zero_le _, (by intro x hx e; simp only [List.mem_cons, List.not_mem_nil, or_false] at hx; rcases hx with rfl; exact hneC1 e.symm), fun p hp _ => by rw [List.mem_singleton.1 hp]; exact fun h => h rfl⟩)
 replace hRb := hb
 clear hb hg
 obtain ⟨W, hWW⟩ : ∃ X, X = W2 := ⟨_, rfl⟩
 subst hWW
 refine ⟨_, rfl, fun a hf => ?_⟩
 refine sv_run (v := .int .u8 (((Tr.kB 5).toNat : Nat) : Int)) hf dd (fun a hf => (ex_chr (s := mkS [Tr.kB 5]) (k := 0) hf rfl rfl rfl u9 (Nat.zero_lt_one))) (fun a hf => ?_)
 refine sv_run (v := .int .i64 5) hf dd (fun a hf => (ex_cv83 hf rfl rfl).trans (by rw [hk0])) (fun a hf => ?_)
 refine sv_build (cs := [.int .i64 5, .int .i64 0, .string ⟨#[]⟩, .slice none 0 0, .slice none 0 0]) hf rfl (by kernel_rfl) dd (fun a hf => ?_)
 refine sv_alloc (zs := [.int .i64 0, .int .i64 0, .string ⟨#[]⟩, .slice none 0 0, .slice none 0 0]) hf hX zero_val dd (fun a C2 W hC hf hX hA => ?_)
 have hneC2 : R ≠ C2 := fun e => by have := hRb.lt; omega
 have h1C2 := Nat.lt_of_lt_of_eq hU.2 hC.symm
 replace hRb := hRb.keep hA
 replace hU := hU.below hA
 clear hC hA
 refine sv_sr hf hX rfl rfl 0 rfl rfl info_val (ones_of rfl) [(C2, [.int .i64 5, .int .i64 0, .string ⟨#[]⟩, .slice none 0 0, .slice none 0 0]), (C1, [.int .i64 0, .int .i64 0, .string ⟨#[]⟩, .slice none 0 0, .slice none 0 0])] rfl (fun W hX hO => ?_)
 replace hRb := hRb.other hO hneC2
 replace hU := hU.kept (Nat.le_of_eq hO.size.symm) (hO.heap 0 (fun e => by omega)) (hO.heap 1 (fun e => by omega))
 clear hO
 refine go hf ?_
 intro a hf
 refine wp_block ?_
 refine gc hf ?_
 intro a hf
 refine sv_add (lv + 1) hf rfl rfl (wrap_in (by omega)) dd (fun a hf => ?_)
 have hlC2 := (hX.get (i := 0) rfl).lt
 have hlC1 := (hX.get (i := 1) rfl).lt
 refine sv_call hf fnOK_101 rfl (cfields_of hn dt hlF hsz hls hnm hwt hlen _ R s (p + 1) (nd + 1) (lv + 1) post hs9 (by omega) (by rw [hdep] at hd2; omega) (by omega) hU hR1 hp0 hRb) dd ?_
 rintro e W2 ⟨v, rfl, hvt, hb, hg⟩
 obtain ⟨n1, hn1⟩ : ∃ n, n = W.heap.size := ⟨_, rfl⟩
 rw [← hn1] at hvt
 have hwn : w.heap.size ≤ n1 := by rw [hn1]; exact (hX.bas _ List.mem_cons_self).1
 rw [← hn1] at hlC2
 rw [← hn1] at hlC1
 replace hU := hU.turn hg hR1
 replace hX := hX.grown hg (fun k e => by obtain rfl := Option.some.inj e; exact ⟨Nat.zero_le _, (by intro x hx e; simp only [List.mem_cons, List.not_mem_nil, or_false] at hx; rcases hx with rfl | rfl; exact hneC2 e.symm; exact hneC1 e.symm), fun p hp _ => by rw [List.mem_singleton.1 hp]; exact fun h => h rfl⟩)
 replace hRb := hb
 clear hb hg
 obtain ⟨W, hWW⟩ : ∃ X, X = W2 := ⟨_, rfl⟩
 subst hWW
 refine ⟨_, rfl, fun a hf => ?_⟩
 obtain ⟨va, vc, hva, hvr⟩ := id hvt
 subst hva
 refine go hf ?_
 intro a hf
 refine sv_sc (cs' := [.int .i64 5, .int .i64 0, .string ⟨#[]⟩, .slice none 0 0, .slice va dt.len vc]) hf hX rfl rfl 0 rfl dd rfl info_flds rfl [(C2, [.int .i64 5, .int .i64 0, .string ⟨#[]⟩, .slice none 0 0, .slice va dt.len vc]), (C1, [.int .i64 0, .int .i64 0, .string ⟨#[]⟩, .slice none 0 0, .slice none 0 0])] rfl (fun W hX hO => ?_)
 replace hRb := hRb.other hO hneC2
 replace hU := hU.kept (Nat.le_of_eq hO.size.symm) (hO.heap 0 (fun e => by omega)) (hO.heap 1 (fun e => by omega))
 replace hvt := hvt.kept (G := fun k => n1 ≤ k) (Nat.le_of_eq hO.size.symm) (fun x hx _ => hO.heap x (by omega)) (fun _ h _ => h)
 clear hO
 refine go hf ?_
 intro a hf
 refine sv_lr hf hX rfl 0 rfl u29 info_val dd (fun a hf => ?_)
 refine sv_sr hf hX rfl rfl 1 rfl rfl info_val (ones_of rfl) [(C2, [.int .i64 5, .int .i64 0, .string ⟨#[]⟩, .slice none 0 0, .slice va dt.len vc]), (C1, [.int .i64 5, .int .i64 0, .string ⟨#[]⟩, .slice none 0 0, .slice va dt.len vc])] rfl (fun W hX hO => ?_)
 replace hRb := hRb.other hO hneC1
 replace hU := hU.kept (Nat.le_of_eq hO.size.symm) (hO.heap 0 (fun e => by omega)) (hO.heap 1 (fun e => by omega))
 replace hvt := hvt.kept (G := fun k => n1 ≤ k) (Nat.le_of_eq hO.size.symm) (fun x hx _ => hO.heap x (by omega)) (fun _ h _ => h)
 clear hO
 refine go hf ?_
 intro a hf
 exact bodyPost_ret (res_cellV (c := 4) (C := C1) (cs := [.int .i64 5, .int .i64 0, .string ⟨#[]⟩, .slice none 0 0, .slice va dt.len vc]) (T := 29) rfl (hf.rel 4 _ rfl) (hX.get (i := 1) rfl) u29 info_val) hf.defers ⟨_, rfl, VAt.mk (by decide) (by decide) (by decide) (LAt.nil _ _) (hvt.kept (Nat.le_refl _) (fun _ _ _ => rfl) (fun x hx _ => Nat.le_trans hwn hx)), (by rw [List.length_cons, show p + ((Tr.nb dt.len ++ dt.cb).length + 1) = p + 1 + (Tr.nb dt.len ++ dt.cb).length by omega, ← Nat.add_assoc nd 1]; exact hRb), ⟨hX.low.os, hX.low.tape, hX.low.output, (hX.bas _ List.mem_cons_self).1, fun k hk hne => (hX.bas _ List.mem_cons_self).2 k hk (fun e => hne (by rw [e]))⟩⟩
theorem snd_utf {n : Int} {s : ByteArray} {l d : Tr} (h : (Tr.mk 4 n s l d).snd = true) : Lib.validD s.data.toList = true := by
 unfold Tr.snd at h
 simp only [Bool.and_eq_true] at h
 have h5 := h.2
 simp at h5
 exact h5.2
theorem rcC_all : ∀ n, RcC n
 | 0, t, ht, hv, _, _, _, _, _, _, _, _, _, _, _, _, _, _, _, _, _ => by
  cases t with
  | mk k m s l d => simp only [Tr.sz] at ht; omega
  | nil => cases hv
  | lcons _ _ => cases hv
  | fcons _ _ _ => cases hv
 | n + 1, t, ht, hv, w, R, s, p, nd, lv, post, hs, hsn, hwt, hd1, hd2, hnd, hU, hR1, hp, hRb => by
  have hn := rcC_all n
  cases t with
  | nil => cases hv
  | lcons _ _ => cases hv
  | fcons _ _ _ => cases hv
  | mk k m x l d =>
   simp only [Tr.sz] at ht
   obtain ⟨_, wm, _, hll, hdl, wL, wD, wl, wd⟩ := id hwt
   rcases snd_nf hsn hwt with ⟨hk, rfl, rfl, rfl, rfl⟩ | ⟨hk, rfl, rfl, rfl, h9, h10⟩ | ⟨hk, rfl, hx, rfl, rfl, h8⟩ | ⟨rfl, rfl, rfl, rfl, hls⟩ | ⟨rfl, rfl, rfl, rfl, hls, hnm⟩
   ·rcases hk with rfl | rfl | rfl
    ·exact rc_K1 w R s p nd lv post hs hd1 hd2 hnd hU hR1 hp hRb
    ·exact rc_K2 w R s p nd lv post hs hd1 hd2 hnd hU hR1 hp hRb
    ·exact rc_K11 w R s p nd lv post hs hd1 hd2 hnd hU hR1 hp hRb
   ·rcases hk with rfl | rfl | rfl
    ·exact rc_K3 m wm w R s p nd lv post hs hd1 hd2 hnd hU hR1 hp hRb
    ·exact rc_K9 m wm (h9 rfl) w R s p nd lv post hs hd1 hd2 hnd hU hR1 hp hRb
    ·exact rc_K10 m wm (h10 rfl) w R s p nd lv post hs hd1 hd2 hnd hU hR1 hp hRb
   ·rcases hk with rfl | rfl | rfl
    ·exact rc_K4 x hx (snd_utf hsn) w R s p nd lv post hs hd1 hd2 hnd hU hR1 hp hRb
    ·exact rc_K7 x hx w R s p nd lv post hs hd1 hd2 hnd hU hR1 hp hRb
    ·exact rc_K8 x hx (h8 rfl) w R s p nd lv post hs hd1 hd2 hnd hU hR1 hp hRb
   ·exact rc_K6 hn l wL (by omega) hls wl hll w R s p nd lv post hs hd1 hd2 hnd hU hR1 hp hRb
   ·exact rc_K5 hn d wD (by omega) hls hnm wd hdl w R s p nd lv post hs hd1 hd2 hnd hU hR1 hp hRb
def plus (a : Act) (ds : List Deferred) : Act := { a with defers := a.defers ++ ds }
theorem plus_put (a : Act) (ds : List Deferred) (d : Option Tmp) (v : Value) : (plus a ds).put d v = plus (a.put d v) ds := by
 cases d <;> rfl
theorem letsOut_plus {Q : Exit → Act → World → Prop} {ds : List Deferred} (h : LetsOut (fun e a' w' => Q e (plus a' ds) w')) : LetsOut Q := by
 obtain ⟨a, w, h⟩ := h
 exact ⟨plus a ds, w, h⟩
section
variable {P : Program} {ds : List Deferred} {Q : Exit → Act → World → Prop}
theorem upon_plus {o : Oper} {a : Act} {next next' : Act → World → Prop} {r : Result Next} (hn : ∀ a w, next' a w → next (plus a ds) w) (h : o.upon P a next' (fun e a' w' => Q e (plus a' ds) w') r) : o.upon P (plus a ds) next Q r := by
 cases r with
 | ok nx w =>
  cases nx with
  | value v =>
   show next ((plus a ds).put o.dst v) w
   rw [plus_put]
   exact hn _ _ h
  | skip =>
   show next ((plus a ds).put o.dst undef) w
   rw [plus_put]
   exact hn _ _ h
  | defer d =>
   show next (({ plus a ds with defers := d :: (plus a ds).defers } : Act).put o.dst undef) w
   have e : ({ plus a ds with defers := d :: (plus a ds).defers } : Act) = plus { a with defers := d :: a.defers } ds := rfl
   rw [e, plus_put]
   exact hn _ _ h
  | enter f args =>
   refine Calls.mono (R := _) h ?_
   intro e w' hr
   cases e with
   | returned v =>
    show next ((plus a ds).put o.dst v) w'
    rw [plus_put]
    exact hn _ _ hr
   | panicked c => exact hr
   | outgrown => exact letsOut_plus hr
  | row rw args =>
   refine Rows.mono (R := _) h ?_
   intro v w' hr
   show next ((plus a ds).put o.dst v) w'
   rw [plus_put]
   exact hn _ _ hr
  | _ => exact h.elim
 | halt hh w =>
  cases hh with
  | panic v => exact h
  | _ => exact h.elim
theorem wpList_plus {ops : Array Oper} : ∀ (rest : List Oper) (a : Act) (w : World), wpList P ops (fun e a' w' => Q e (plus a' ds) w') rest a w → wpList P ops Q rest (plus a ds) w
 | [], _, _, h => h
 | o :: rest, a, w, h => by
  unfold wpList at h ⊢
  have hy : yielded ops (plus a ds).tmps = yielded ops a.tmps := rfl
  rw [hy]
  split at h
  ·rename_i hw
   rw [if_pos hw]
   rcases h with h | ⟨h1, h2⟩
   ·exact .inl (upon_plus (wpList_plus rest) h)
   ·exact .inr ⟨h1, letsOut_plus h2⟩
  ·rename_i hw
   rw [if_neg hw, plus_put]
   exact wpList_plus rest _ _ h
theorem wpOp_plus {ops : Array Oper} {i : Nat} {K K' : Act → World → Prop} {a : Act} {w : World} (hK : ∀ a w, K' a w → K (plus a ds) w) (h : wpOp P ops (fun e a' w' => Q e (plus a' ds) w') i K' a w) : wpOp P ops Q i K (plus a ds) w := by
 unfold wpOp at h ⊢
 cases hi : ops[i]? with
 | none =>
  rw [hi] at h
  exact hK _ _ h
 | some o =>
  rw [hi] at h
  simp only at h ⊢
  have hy : yielded ops (plus a ds).tmps = yielded ops a.tmps := rfl
  rw [hy]
  split at h
  ·rename_i hw
   rw [if_pos hw]
   rcases h with h | ⟨h1, h2⟩
   ·exact .inl (upon_plus hK h)
   ·exact .inr ⟨h1, letsOut_plus h2⟩
  ·rename_i hw
   rw [if_neg hw, plus_put]
   exact hK _ _ h
theorem wpOrd_plus {ops : Array Oper} {S : World → Prop} {R : Act → World → Prop} : ∀ (l : List (Nat × Nat)) (a : Act) (w : World), wpOrd P ops (fun e a' w' => Q e (plus a' ds) w') S (fun a' w' => R (plus a' ds) w') l a w → wpOrd P ops Q S R l (plus a ds) w
 | [], _, _, h => h
 | (i, 0) :: rest, a, w, h => by
  obtain ⟨oi, v, h1, h2, h3⟩ := h
  exact ⟨oi, v, h1, h2, by rw [plus_put]; exact wpOrd_plus rest _ _ h3⟩
 | (i, 1) :: rest, a, w, h => by
  obtain ⟨oi, v, h1, h2, h3⟩ := h
  exact ⟨oi, v, h1, h2, by rw [plus_put]; exact wpOrd_plus rest _ _ h3⟩
 | (i, 2) :: rest, a, w, h => wpOp_plus (fun a w h => ⟨h.1, wpOrd_plus rest _ _ h.2⟩) h
 | (i, k + 3) :: rest, a, w, h => wpOp_plus (fun a w h => wpOrd_plus rest _ _ h) h
theorem calls_frvD {N : Nat} {g : FuncId} {fn : Func} {k : Code} {vs : List Value} {R : Ending → World → Prop} {w : World} (env : VEnv) (hf : P.funcs[g]? = some fn) (hb : fn.body = some k) (hN : fn.ntmps = N) (hvs : vs.length ≤ N) (henv : ∀ p ∈ env, vs[p.1]? = some p.2)
  (h : ∀ a : Act, FrV N env a → k.wp P (bodyPostD P fn R) a w) : Calls P g vs.toArray w R := by
 refine calls_of_wp_defers hf hb (h _ ⟨by simp [hN]; omega, rfl, fun t v hl => ?_⟩)
 have hm : (t, v) ∈ env := by
  clear henv h
  induction env with
  | nil => cases hl
  | cons p env ih =>
   obtain ⟨k, u⟩ := p
   by_cases e : t = k
   ·subst e
    simp [List.lookup] at hl
    subst hl
    exact List.mem_cons_self
   ·have hb : (t == k) = false := by simpa using e
    simp only [List.lookup, hb] at hl
    exact List.mem_cons_of_mem _ (ih hl)
 have h1 := henv _ hm
 have hlt : t < vs.length := (List.getElem?_eq_some_iff.1 h1).1
 simp [Act.eval, Array.getElem?_append, hlt]
 rw [List.getElem?_eq_some_iff] at h1
 exact h1.2
theorem sv_defer {N : Nat} {env : VEnv} {a : Act} {w : World} {ops : Array Oper} {y : TypeId} {ps : String} {af : Array Edge} {x : Nat} {g : FuncId} {first caps : Array Value} (hf : FrV N env a) (hx : env.lookup x = some (.func (.func g) first caps)) (h : Q .normal (plus a [{ target := .fn (.func g) caps, args := first }]) w) : wpList P ops Q ({ dst := none, op := .defer { callee := .value (.tmp x), args := #[], argTypes := #[] }, type := y, pos := ps, after := af, guard := none } :: []) a w := by
 have hr : (execOp a.eval { dst := none, op := .defer { callee := .value (.tmp x), args := #[], argTypes := #[] }, type := y, pos := ps, after := af, guard := none }).run P w = .ok (.defer { target := .fn (.func g) caps, args := first }) w := by
  unfold execOp
  have h1 : a.tmps[x]?.getD undef = .func (.func g) first caps := by
   have := hf.rel x _ hx
   simpa [Act.eval] using this
  simp [resolve, h1, go_sem]
 unfold wpList
 have hw : Region.wanted { dst := none, op := .defer { callee := .value (.tmp x), args := #[], argTypes := #[] }, type := y, pos := ps, after := af, guard := none } (yielded ops a.tmps) = true := rfl
 rw [if_pos hw]
 refine .inl ?_
 unfold Oper.wp
 rw [hr]
 have e : plus a [{ target := .fn (.func g) caps, args := first }] = { a with defers := [{ target := .fn (.func g) caps, args := first }] } := by
  unfold plus
  rw [hf.defers]
  rfl
 show Q .normal ({ a with defers := _ :: a.defers } : Act) w
 rw [hf.defers, ← e]
 exact h
end
theorem catch_idle (p q r : Addr) (w : World) : CallsD Tryz.prog 82 #[.pointer (some p), .pointer (some q), .pointer (some r)] .returning w fun e u' w' => e = .returned (.tuple #[]) ∧ u' = .returning ∧ w' = w := by
 refine callsD_of_wpS Tryz.func82 rfl fun c₀ cs hu => ?_
 apply wpS_seq
 apply wpS_region
 simp [wpOpsS, go_sem, recoverD, hu, Tryz.ntmps82, Exit.thenS]
 apply wpS_seq
 apply wpS_seq
 apply wpS_region
 simp [wpOpsS, go_sem, Exit.thenS]
 refine wpS_cond (t := true) (by simp [Act.eval, Array.replicate]) ?_
 simp only [if_true]
 refine wpS_of_wp (wp_ret ?_)
 cases c₀
 simp_all [bodyPostS, results, Tryz.results82, Exit.thenS]
theorem U8.cellset {W : World} {C o : Nat} {v : Value} (h : U8 W) (hC : 1 < C) : U8 (W.setCell ⟨C, o, none⟩ v) := by
 have hO := Only.setCell W C o v
 exact h.kept (Nat.le_of_eq hO.size.symm) (hO.heap 0 (by omega)) (hO.heap 1 (by omega))
theorem VAt.cellset {W : World} {F : Nat → Prop} {t : Tr} {cs : List Value} {C o : Nat} {v : Value} (h : VAt W F t cs) (hF : ∀ x, F x → x ≠ C) : VAt (W.setCell ⟨C, o, none⟩ v) F t cs := by
 have hO := Only.setCell W C o v
 exact h.kept (Nat.le_of_eq hO.size.symm) (fun x hx _ => hO.heap x (hF x hx)) (fun _ h _ => h)
theorem wp_region_only {P : Program} {u : Code} {K : Act → World → Prop} {Q : Exit → Act → World → Prop} {a : Act} {w : World} (h : u.wp P (fun e a w => e = .normal ∧ K a w) a w) : u.wp P (Exit.then K Q) a w := Code.wp_mono (fun e a w h => by obtain ⟨rfl, hk⟩ := h; exact hk) h
theorem ov2st {P : Program} {ops : Array Oper} {Q : Exit → Act → World → Prop} {S : World → Prop} {R : Act → World → Prop} {i : Nat} {rest : List (Nat × Nat)} {oi : Oper} {a : Act} {w w' : World} (hi : ops[i]? = some oi) (hd : oi.dst = none) (hw : Region.wanted oi (yielded ops a.tmps) = true) (hrun : (execOp a.eval oi).run P w = .ok .skip w') (hS : S w') (h : wpOrd P ops Q S R rest a w') : wpOrd P ops Q S R ((i, 2) :: rest) a w := by
 refine wpOrd_eff2 hi hw (fun K hK => ?_)
 unfold Oper.wp
 rw [hrun, Oper.upon_skip, hd]
 exact hK _ _ hS h
theorem res_cells3 {fn : Func} {c d e C D E : Nat} {cs : List Value} {m n : Int} {a : Act} {w : World} (hr : fn.results = #[.cell c 29, .cell d 3, .cell e 32]) (ha : a.eval (.tmp c) = .pointer (some ⟨C, 0, none⟩)) (hb : a.eval (.tmp d) = .pointer (some ⟨D, 0, none⟩)) (he : a.eval (.tmp e) = .pointer (some ⟨E, 0, none⟩)) (hC : Box w C cs) (hD : Box w D [.int .i64 m]) (hE : Box w E [.int .i64 n]) (hi : (Tryz.prog.info? 29).map (·.size) = some cs.length) : (results fn a.tmps).run Tryz.prog w = .ok (.tuple #[.agg cs.toArray, .int .i64 m, .int .i64 n]) w := by
 have hl := run_loadVar_mid (P := Tryz.prog) w C 0 29 cs _ hC.rng u29 rfl hi
 have h1 := hD.cell 0 _ rfl
 have h2 := hE.cell 0 _ rfl
 have h3 : a.tmps[c]?.getD undef = .pointer (some ⟨C, 0, none⟩) := by simpa [Act.eval] using ha
 have h4 : a.tmps[d]?.getD undef = .pointer (some ⟨D, 0, none⟩) := by simpa [Act.eval] using hb
 have h5 : a.tmps[e]?.getD undef = .pointer (some ⟨E, 0, none⟩) := by simpa [Act.eval] using he
 have l1 : (loadVar 3 ⟨D, 0, none⟩).run Tryz.prog w = .ok (.int .i64 m) w := by simp [go_sem, h1]
 have l2 : (loadVar 32 ⟨E, 0, none⟩).run Tryz.prog w = .ok (.int .i64 n) w := by simp [go_sem, h2]
 simp [results, hr, asAddr, h3, h4, h5, hl, l1, l2]
theorem valid_nf {t : Tr} (htv : t.isV = true) (h : t.valid = true) : t.snd = true ∧ 1 + ((t.dep : Nat) : Int) ≤ 17 ∧ 0 + t.nod ≤ 1024 := by
 unfold Tr.valid at h
 simp only [Bool.and_eq_true, decide_eq_true_eq] at h
 exact ⟨h.2, by omega, by omega⟩
theorem cread_any (t : Tr) (htv : t.isV = true) (hval : t.valid = true) (htw : wfT t) (hlen : t.cb.length ≤ 1000000000) (w : World) (hU : U8 w) : Calls Tryz.prog 55 #[.string (mkS t.cb), .int .i64 0] w fun e w' => ∃ cs, e = .returned (.tuple #[.agg cs.toArray, .int .i64 ((t.cb.length : Nat) : Int), .int .i64 0]) ∧ VAt w' (fun k => w.heap.size ≤ k) t cs ∧ Below w.heap.size w w' := by
 obtain ⟨hsn, hdep, hnod⟩ := valid_nf htv hval
 have hsz : ((mkS t.cb).size : Int) = ((t.cb.length : Nat) : Int) := by rw [mkS_size]
 refine calls_frvD (N := 25) (vs := [.string (mkS t.cb), .int .i64 0]) [(0, .string (mkS t.cb)), (1, .int .i64 0)] Tryz.func55 rfl rfl dd (fun p hp => by simp only [List.mem_cons, List.not_mem_nil, or_false] at hp; rcases hp with rfl | rfl <;> rfl) (fun a hf => ?_)
 have hX := Bx.start w
 refine wp_seq ?_
 refine wp_region_lit ?_
 refine sv_alloc (zs := [.int .i64 0, .int .i64 0, .string ⟨#[]⟩, .slice none 0 0, .slice none 0 0]) hf hX zero_val dd (fun a C1 W hC hf hX hA => ?_)
 have h1C1 := Nat.lt_of_lt_of_eq hU.2 hC.symm
 replace hU := hU.below hA
 clear hC hA
 refine sv_alloc1 (v := .int .i64 0) hf hX zero_int rfl dd (fun a C2 W hC hf hX hA => ?_)
 have h1C2 := Nat.lt_of_lt_of_eq hU.2 hC.symm
 replace hU := hU.below hA
 clear hC hA
 refine sv_alloc1 (v := .int .i64 0) hf hX zero_err rfl dd (fun a C3 W hC hf hX hA => ?_)
 have h1C3 := Nat.lt_of_lt_of_eq hU.2 hC.symm
 replace hU := hU.below hA
 clear hC hA
 refine sv_nil hf ?_
 refine wp_seq ?_
 refine wp_seq ?_
 refine wp_region_lit ?_
 refine sv_mv hf rfl dd (fun a hf => ?_)
 refine sv_cmp hf rfl rfl false (congrArg some (decide_eq_false (by decide))) dd (fun a hf => ?_)
 refine sv_mv hf rfl dd (fun a hf => ?_)
 refine sv_want hf rfl rfl ?_
 refine sv_mv hf rfl dd (fun a hf => ?_)
 refine sv_want hf rfl rfl ?_
 refine sv_mv hf rfl dd (fun a hf => ?_)
 refine sv_want hf rfl rfl ?_
 refine sv_lens hf rfl u9 dd (fun a hf => ?_)
 refine sv_want hf rfl rfl ?_
 refine sv_cmp hf rfl rfl false (congrArg some (decide_eq_false (by omega))) dd (fun a hf => ?_)
 refine sv_pk hf rfl rfl dd (fun a hf => ?_)
 replace hf := hf.sub (env' := [(15, .bool false), (6, .pointer (some ⟨C3, 0, none⟩)), (5, .pointer (some ⟨C2, 0, none⟩)), (4, .pointer (some ⟨C1, 0, none⟩)), (0, .string (mkS t.cb)), (1, .int .i64 0)]) (sub_cons rfl (sub_cons rfl (sub_cons rfl (sub_cons rfl (sub_cons rfl (sub_cons rfl (sub_nil)))))))
 refine sv_nil hf ?_
 refine wp_cond_false (hf.rel _ _ rfl) ?_
 refine wp_skip ?_
 refine wp_seq ?_
 refine wp_region_lit ?_
 refine sv_mkf (vs := [.pointer (some ⟨C1, 0, none⟩), .pointer (some ⟨C2, 0, none⟩), .pointer (some ⟨C3, 0, none⟩)]) hf rfl dd (fun a hf => ?_)
 refine sv_defer hf rfl ?_
 replace hf := hf.sub (env' := [(6, .pointer (some ⟨C3, 0, none⟩)), (5, .pointer (some ⟨C2, 0, none⟩)), (4, .pointer (some ⟨C1, 0, none⟩)), (0, .string (mkS t.cb)), (1, .int .i64 0)]) (sub_cons rfl (sub_cons rfl (sub_cons rfl (sub_cons rfl (sub_cons rfl (sub_nil))))))
 refine wp_seq ?_
 refine wp_region_lit ?_
 refine wpList_plus _ _ _ ?_
 refine sv_mv hf rfl dd (fun a hf => ?_)
 refine sv_mv hf rfl dd (fun a hf => ?_)
 refine sv_build (cs := [.string (mkS t.cb), .int .i64 0, .int .i64 0]) hf rfl (by kernel_rfl) dd (fun a hf => ?_)
 refine sv_alloc (zs := [.string ⟨#[]⟩, .int .i64 0, .int .i64 0]) hf hX zero_crd dd (fun a C4 W hC hf hX hA => ?_)
 have h1C4 := Nat.lt_of_lt_of_eq hU.2 hC.symm
 replace hU := hU.below hA
 clear hC hA
 refine sv_sr hf hX rfl rfl 0 rfl rfl info_crd (ones_of rfl) [(C4, [.string (mkS t.cb), .int .i64 0, .int .i64 0]), (C3, [.int .i64 0]), (C2, [.int .i64 0]), (C1, [.int .i64 0, .int .i64 0, .string ⟨#[]⟩, .slice none 0 0, .slice none 0 0])] rfl (fun W hX hO => ?_)
 replace hU := hU.kept (Nat.le_of_eq hO.size.symm) (hO.heap 0 (fun e => by omega)) (hO.heap 1 (fun e => by omega))
 clear hO
 replace hf := hf.sub (env' := [(7, .pointer (some ⟨C4, 0, none⟩)), (6, .pointer (some ⟨C3, 0, none⟩)), (5, .pointer (some ⟨C2, 0, none⟩)), (4, .pointer (some ⟨C1, 0, none⟩))]) (sub_cons rfl (sub_cons rfl (sub_cons rfl (sub_cons rfl (sub_nil)))))
 refine sv_nil hf ?_
 refine wp_seq ?_
 refine wp_region_lit ?_
 refine wpList_plus _ _ _ ?_
 have hlC4 := (hX.get (i := 0) rfl).lt
 have hlC3 := (hX.get (i := 1) rfl).lt
 have hlC2 := (hX.get (i := 2) rfl).lt
 have hlC1 := (hX.get (i := 3) rfl).lt
 obtain ⟨n0, hn0⟩ : ∃ n, n = W.heap.size := ⟨_, rfl⟩
 have hn0w : w.heap.size ≤ n0 := by rw [hn0]; exact hX.low.size
 rw [← hn0] at hlC4
 rw [← hn0] at hlC3
 rw [← hn0] at hlC2
 rw [← hn0] at hlC1
 refine sv_call hf fnOK_83 rfl (rcC_all _ t (Nat.le_refl _) htv _ C4 (mkS t.cb) 0 0 1 [] hlen hsn htw dd hdep hnod hU h1C4 (by rw [List.drop_zero, List.append_nil]; rfl) (hX.get (i := 0) rfl)) dd ?_
 rintro e W2 ⟨cs, rfl, hvt, hb, hg⟩
 replace hU := hU.turn hg h1C4
 rw [← hn0] at hvt
 replace hX : Bx ⟨w, []⟩ [(C4, [.string (mkS t.cb), .int .i64 ((0 + t.cb.length : Nat) : Int), .int .i64 ((0 + t.nod : Nat) : Int)]), (C3, [.int .i64 0]), (C2, [.int .i64 0]), (C1, [.int .i64 0, .int .i64 0, .string ⟨#[]⟩, .slice none 0 0, .slice none 0 0])] W2 := hX.turn (i := 0) rfl hg hb
 clear hb hg
 obtain ⟨W, hWW⟩ : ∃ X, X = W2 := ⟨_, rfl⟩
 subst hWW
 have hcs5 := hvt.len
 have hones5 := hvt.ones
 rw [Nat.zero_add, Nat.zero_add] at hX
 refine ⟨_, rfl, fun a hf => ?_⟩
 refine sv_sr hf hX rfl rfl 3 rfl (by show cs.length = _; rw [hcs5]; rfl) (by rw [hcs5]; exact info_val) hones5 [(C4, [.string (mkS t.cb), .int .i64 ((t.cb.length : Nat) : Int), .int .i64 ((t.nod : Nat) : Int)]), (C3, [.int .i64 0]), (C2, [.int .i64 0]), (C1, cs)] rfl (fun W hX hO => ?_)
 replace hU := hU.kept (Nat.le_of_eq hO.size.symm) (hO.heap 0 (fun e => by omega)) (hO.heap 1 (fun e => by omega))
 replace hvt := hvt.kept (G := fun k => n0 ≤ k) (Nat.le_of_eq hO.size.symm) (fun x hx _ => hO.heap x (by omega)) (fun _ h _ => h)
 clear hO
 replace hf := hf.sub (env' := [(7, .pointer (some ⟨C4, 0, none⟩)), (6, .pointer (some ⟨C3, 0, none⟩)), (5, .pointer (some ⟨C2, 0, none⟩)), (4, .pointer (some ⟨C1, 0, none⟩))]) (sub_cons rfl (sub_cons rfl (sub_cons rfl (sub_cons rfl (sub_nil)))))
 refine sv_nil hf ?_
 refine wp_seq ?_
 refine wp_region_only ?_
 refine wp_region_ordW 6 4 [(0, 1), (1, 0), (2, 1), (3, 2), (4, 3), (5, 3)] (fun X => Bx ⟨w, []⟩ [(C4, [.string (mkS t.cb), .int .i64 ((t.cb.length : Nat) : Int), .int .i64 ((t.nod : Nat) : Int)]), (C3, [.int .i64 0]), (C2, [.int .i64 0]), (C1, cs)] X) mixed (by kernel_rfl) hX.drew (fun c a d v w h => by cases h.1) ?_
 refine wpOrd_plus _ _ _ ?_
 replace hX := hX.drew
 replace hU := hU.below (Below.refl _ _).drew
 replace hvt := hvt.below (Below.refl _ _).drew
 refine ov1 hf rfl rfl dd rfl (fun X hS => ex_vlr (cs := cs) hf rfl rfl (hS.get (i := 3) rfl) u29 (by rw [hcs5]; exact info_val)) (fun a hf => ?_)
 refine ov0 hf rfl rfl dd rfl (fun X => ex_vfld (1) hf rfl rfl Tryz.underlying145 rfl sz_int rfl) (fun a hf => ?_)
 refine ov1 hf rfl rfl dd rfl (fun X hS => ex_vlc (cs := [.string (mkS t.cb), .int .i64 ((t.cb.length : Nat) : Int), .int .i64 ((t.nod : Nat) : Int)]) hf rfl rfl (hS.get (i := 0) rfl) rfl u3 rfl) (fun a hf => ?_)
 have hbS := hX.get (i := 3) (C := C1) (cs := cs) rfl
 have hO := Only.setCells _ C1 0 cs hbS.lt
 have hX2 : Bx ⟨w, []⟩ [(C4, [.string (mkS t.cb), .int .i64 ((t.cb.length : Nat) : Int), .int .i64 ((t.nod : Nat) : Int)]), (C3, [.int .i64 0]), (C2, [.int .i64 0]), (C1, cs)] _ := hX.set (i := 3) rfl (hbS.store rfl) hO
 refine ov2st rfl rfl rfl (ex_store_row 29 _ _ C1 0 cs rfl (hf.ev rfl) (hf.ev rfl) (hbS.there 0 cs.length (by rw [hcs5]; decide)) (by rw [hcs5]; exact info_val) hones5) hX2 ?_
 replace hX := hX2
 replace hU := hU.kept (Nat.le_of_eq hO.size.symm) (hO.heap 0 (fun e => by omega)) (hO.heap 1 (fun e => by omega))
 replace hvt := hvt.kept (G := fun k => n0 ≤ k) (Nat.le_of_eq hO.size.symm) (fun x hx _ => hO.heap x (by omega)) (fun _ h _ => h)
 clear hX2 hO hbS
 have hbS := hX.get (i := 2) (C := C2) (cs := [.int .i64 0]) rfl
 refine ov3 rfl rfl rfl (ex_store_cell _ _ _ C2 0 (.int .i64 ((t.cb.length : Nat) : Int)) rfl (hf.ev rfl) (hf.ev rfl) (hbS.there 0 1 dd) info_int rfl) ?_
 replace hX := hX.set (i := 2) rfl (hbS.setCell 0 (.int .i64 ((t.cb.length : Nat) : Int)) (of_decide_eq_true rfl)) (Only.setCell _ C2 0 _)
 replace hU := hU.cellset (C := C2) (o := 0) (v := .int .i64 ((t.cb.length : Nat) : Int)) (by omega)
 replace hvt := VAt.cellset (C := C2) (o := 0) (v := .int .i64 ((t.cb.length : Nat) : Int)) hvt (fun x hx => by omega)
 clear hbS
 have hbS := hX.get (i := 1) (C := C3) (cs := [.int .i64 0]) rfl
 refine ov3 rfl rfl rfl (ex_store_cell _ _ _ C3 0 (.int .i64 0) rfl (hf.ev rfl) (hf.ev rfl) (hbS.there 0 1 dd) info_err rfl) ?_
 replace hX := hX.set (i := 1) rfl (hbS.setCell 0 (.int .i64 0) (of_decide_eq_true rfl)) (Only.setCell _ C3 0 _)
 replace hU := hU.cellset (C := C3) (o := 0) (v := .int .i64 0) (by omega)
 replace hvt := VAt.cellset (C := C3) (o := 0) (v := .int .i64 0) hvt (fun x hx => by omega)
 clear hbS
 replace hf := hf.sub (env' := [(6, .pointer (some ⟨C3, 0, none⟩)), (5, .pointer (some ⟨C2, 0, none⟩)), (4, .pointer (some ⟨C1, 0, none⟩))]) (sub_cons rfl (sub_cons rfl (sub_cons rfl (sub_nil))))
 refine wpOrd_nil ?_
 refine ⟨rfl, ?_⟩
 refine wp_ret ?_
 try simp only [Exit.inBlock, Exit.then]
 show Leaves _ _ a.tmps _ (a.defers ++ [{ target := .fn (.func 82) #[.pointer (some ⟨C1, 0, none⟩), .pointer (some ⟨C2, 0, none⟩), .pointer (some ⟨C3, 0, none⟩)], args := #[] }]) .returning _
 rw [hf.defers]
 refine leaves_cons (f := 82) (args := #[.pointer (some ⟨C1, 0, none⟩), .pointer (some ⟨C2, 0, none⟩), .pointer (some ⟨C3, 0, none⟩)]) (fun h => by cases h) rfl ?_
 refine (catch_idle _ _ _ _).mono ?_
 rintro e u' w'' ⟨rfl, rfl, rfl⟩
 exact ⟨_, res_cells3 (cs := cs) (m := ((t.cb.length : Nat) : Int)) (n := 0) rfl (hf.rel 4 _ rfl) (hf.rel 5 _ rfl) (hf.rel 6 _ rfl) (hX.get (i := 3) rfl) (hX.get (i := 2) rfl) (hX.get (i := 1) rfl) (by rw [hcs5]; exact info_val), cs, rfl, hvt.kept (Nat.le_refl _) (fun _ _ _ => rfl) (fun x hx _ => Nat.le_trans hn0w hx), hX.low⟩
theorem cDecode_any (t : Tr) (htv : t.isV = true) (hval : t.valid = true) (htw : wfT t) (hlen : t.cb.length ≤ 1000000000) (w : World) (hU : U8 w) : Calls Tryz.prog 29 #[.string (mkS t.cb)] w fun e w' => ∃ cs, e = .returned (.tuple #[.agg cs.toArray, .int .i64 0]) ∧ VAt w' (fun k => w.heap.size ≤ k) t cs ∧ Below w.heap.size w w' := by
 refine cv1 Tryz.func29 rfl rfl rfl fun a hf => ?_
 have hX := Bx.start w
 refine gc hf ?_
 intro a hf
 refine sv_alloc (zs := [.int .i64 0, .int .i64 0, .string ⟨#[]⟩, .slice none 0 0, .slice none 0 0]) hf hX zero_val dd (fun a C1 W hC hf hX hA => ?_)
 have h1C1 := Nat.lt_of_lt_of_eq hU.2 hC.symm
 replace hU := hU.below hA
 clear hC hA
 refine go hf ?_
 intro a hf
 have hlC1 := (hX.get (i := 0) rfl).lt
 obtain ⟨n0, hn0⟩ : ∃ n, n = W.heap.size := ⟨_, rfl⟩
 have hn0w : w.heap.size ≤ n0 := by rw [hn0]; exact hX.low.size
 rw [← hn0] at hlC1
 refine sv_call hf fnOK_55 rfl (cread_any t htv hval htw hlen _ hU) dd ?_
 rintro e W ⟨cs, rfl, hvt, hb⟩
 rw [← hn0] at hvt
 replace hU := hU.below hb
 replace hX := hX.keep hb
 clear hb
 obtain ⟨n1, hn1⟩ : ∃ n, n = W.heap.size := ⟨_, rfl⟩
 replace hvt := hvt.kept (G := fun k => n0 ≤ k ∧ k < n1) (Nat.le_refl _) (fun _ _ _ => rfl) (fun x hx hl => ⟨hx, by omega⟩)
 have hcs5 := hvt.len
 have hones5 := hvt.ones
 refine ⟨_, rfl, fun a hf => ?_⟩
 refine go hf ?_
 intro a hf
 refine sv_ext hf rfl rfl dd (fun a hf => ?_)
 refine sv_ext hf rfl rfl dd (fun a hf => ?_)
 refine sv_ext hf rfl rfl dd (fun a hf => ?_)
 refine sv_alloc (zs := [.int .i64 0, .int .i64 0, .string ⟨#[]⟩, .slice none 0 0, .slice none 0 0]) hf hX zero_val dd (fun a C2 W hC hf hX hA => ?_)
 have h1C2 := Nat.lt_of_lt_of_eq hU.2 hC.symm
 replace hU := hU.below hA
 have h2C2 : n1 ≤ C2 := by omega
 replace hvt := hvt.below hA
 clear hC hA
 refine sv_sr hf hX rfl rfl 0 rfl (by show cs.length = _; rw [hcs5]; rfl) (by rw [hcs5]; exact info_val) hones5 [(C2, cs), (C1, [.int .i64 0, .int .i64 0, .string ⟨#[]⟩, .slice none 0 0, .slice none 0 0])] rfl (fun W hX hO => ?_)
 replace hU := hU.kept (Nat.le_of_eq hO.size.symm) (hO.heap 0 (fun e => by omega)) (hO.heap 1 (fun e => by omega))
 replace hvt := hvt.kept (G := fun k => n0 ≤ k ∧ k < n1) (Nat.le_of_eq hO.size.symm) (fun x hx _ => hO.heap x (by omega)) (fun _ h _ => h)
 clear hO
 refine go hf ?_
 intro a hf
 refine sv_lens hf rfl u9 dd (fun a hf => ?_)
 refine sv_cmp hf rfl rfl false (congrArg some (decide_eq_false (by rw [mkS_size]; exact Int.lt_irrefl _))) dd (fun a hf => ?_)
 refine go hf ?_
 intro a hf
 refine sv_lr (cs := cs) hf hX rfl 0 rfl u29 (by rw [hcs5]; exact info_val) dd (fun a hf => ?_)
 refine sv_sr hf hX rfl rfl 1 rfl (by show cs.length = _; rw [hcs5]; rfl) (by rw [hcs5]; exact info_val) hones5 [(C2, cs), (C1, cs)] rfl (fun W hX hO => ?_)
 replace hU := hU.kept (Nat.le_of_eq hO.size.symm) (hO.heap 0 (fun e => by omega)) (hO.heap 1 (fun e => by omega))
 replace hvt := hvt.kept (G := fun k => n0 ≤ k ∧ k < n1) (Nat.le_of_eq hO.size.symm) (fun x hx _ => hO.heap x (by omega)) (fun _ h _ => h)
 clear hO
 refine go hf ?_
 intro a hf
 exact bodyPost_ret (res_cell_tmp (c := 2) (d := 3) (C := C1) (cs := cs) (T := 29) (v := .int .i64 0) rfl (hf.rel 2 _ rfl) (hf.rel 3 _ rfl) (hX.get (i := 1) rfl) u29 (by rw [hcs5]; exact info_val)) hf.defers ⟨_, rfl, hvt.kept (Nat.le_refl _) (fun _ _ _ => rfl) (fun x hx _ => Nat.le_trans hn0w hx.1), hX.low⟩
end Go.Proofs.YtilopjlcgmedgaaGreatDoor
namespace Crc
theorem seal4_take (l : List UInt8) : (seal4 l).take ((seal4 l).length - 4) = l := by
 rw [seal4_length]; simp [seal4]
theorem seal4_drop (l : List UInt8) : (seal4 l).drop ((seal4 l).length - 4) = tail l := by
 rw [seal4_length]; simp [seal4]
theorem openS_seal (l : List UInt8) : openS (seal4 l) = l := by
 unfold openS
 rw [if_neg (by rw [seal4_length]; omega), seal4_take, seal4_drop, if_pos rfl]
theorem openE_seal (l : List UInt8) : openE (seal4 l) = 0 := by
 unfold openE
 rw [if_neg (by rw [seal4_length]; omega), seal4_take, seal4_drop, if_pos rfl]
theorem ofNat_toNat (n : Nat) : (UInt8.ofNat n).toNat = n % 256 := by simp
def num : List UInt8 → Nat
 | [] => 0
 | b :: l => 256 * num l + b.toNat
def len4 (l : List UInt8) : Nat := num (l.take 4)
def recAt (l : List UInt8) : Int × List UInt8 :=
 if l.length < 4 then (38, []) else if 65536 < len4 l then (4, []) else if l.length < len4 l + 8 then (38, [])
 else if openE ((l.drop 4).take (len4 l + 4)) = 0 then (0, openS ((l.drop 4).take (len4 l + 4))) else (7, [])
def rd : Nat → List UInt8 → Nat → List (List UInt8) × Nat × Int
 | 0, _, k => ([], k, 0)
 | f + 1, L, k => if L.length ≤ k then ([], k, 0) else
   if (recAt (L.drop k)).1 = 0 then ((recAt (L.drop k)).2 :: (rd f L (k + len4 (L.drop k) + 8)).1, (rd f L (k + len4 (L.drop k) + 8)).2)
   else ([], k, (recAt (L.drop k)).1)
def read (L : List UInt8) : List (List UInt8) × Nat × Int := rd L.length L 0
def Done (L : List UInt8) (ls : List (List UInt8)) (k : Nat) : Prop := ls.length ≤ k ∧ ∃ f, L.length - k ≤ f ∧ read L = (ls ++ (rd f L k).1, (rd f L k).2)
theorem Done.start (L : List UInt8) : Done L [] 0 := ⟨Nat.le_refl _, L.length, by omega, by simp [read]⟩
theorem Done.count {L : List UInt8} {ls : List (List UInt8)} {k : Nat} (h : Done L ls k) : ls.length ≤ k := h.1
theorem Done.next {L : List UInt8} {ls : List (List UInt8)} {k : Nat} {d : List UInt8} (h : Done L ls k) (hk : k < L.length) (hr : recAt (L.drop k) = (0, d)) : Done L (ls ++ [d]) (k + len4 (L.drop k) + 8) := by
 obtain ⟨hc, f, hf, e⟩ := h
 cases f with
 | zero => omega
 | succ f =>
  refine ⟨by simp; omega, f, by omega, ?_⟩
  rw [e]
  simp only [rd]
  rw [if_neg (by omega), hr]
  simp
theorem Done.fail {L : List UInt8} {ls : List (List UInt8)} {k : Nat} {x : Int} {d : List UInt8} (h : Done L ls k) (hk : k < L.length) (hr : recAt (L.drop k) = (x, d)) (hx : x ≠ 0) : read L = (ls, k, x) := by
 obtain ⟨hc, f, hf, e⟩ := h
 cases f with
 | zero => omega
 | succ f =>
  rw [e]
  simp only [rd]
  rw [if_neg (by omega), hr, if_neg hx]
  simp
theorem Done.over {L : List UInt8} {ls : List (List UInt8)} {k : Nat} (h : Done L ls k) (hk : L.length ≤ k) : read L = (ls, k, 0) := by
 obtain ⟨hc, f, hf, e⟩ := h
 cases f with
 | zero => rw [e]; simp [rd]
 | succ f =>
  rw [e]
  simp only [rd]
  rw [if_pos hk]
  simp
theorem recAt_short {l : List UInt8} (h : l.length < 4) : recAt l = (38, []) := by simp [recAt, h]
theorem recAt_form {l : List UInt8} (h : ¬ l.length < 4) (h2 : 65536 < len4 l) : recAt l = (4, []) := by simp [recAt, h, h2]
theorem recAt_torn {l : List UInt8} (h : ¬ l.length < 4) (h2 : ¬ 65536 < len4 l) (h3 : l.length < len4 l + 8) : recAt l = (38, []) := by
 unfold recAt; rw [if_neg h, if_neg h2, if_pos h3]
theorem recAt_sum {l : List UInt8} (h : ¬ l.length < 4) (h2 : ¬ 65536 < len4 l) (h3 : ¬ l.length < len4 l + 8) (h4 : ¬ openE ((l.drop 4).take (len4 l + 4)) = 0) : recAt l = (7, []) := by
 unfold recAt; rw [if_neg h, if_neg h2, if_neg h3, if_neg h4]
theorem recAt_ok {l : List UInt8} (h : ¬ l.length < 4) (h2 : ¬ 65536 < len4 l) (h3 : ¬ l.length < len4 l + 8) (h4 : openE ((l.drop 4).take (len4 l + 4)) = 0) : recAt l = (0, openS ((l.drop 4).take (len4 l + 4))) := by
 unfold recAt; rw [if_neg h, if_neg h2, if_neg h3, if_pos h4]
theorem len4_eq {l : List UInt8} (h : ¬ l.length < 4) : len4 l = l[0].toNat + 256 * l[1].toNat + 65536 * l[2].toNat + 16777216 * l[3].toNat := by
 match l, h with
 | [], h => exact absurd (by simp) h
 | [_], h => exact absurd (by simp) h
 | [_, _], h => exact absurd (by simp) h
 | [_, _, _], h => exact absurd (by simp) h
 | a :: b :: c :: d :: l, _ =>
  simp [len4, num]
  omega
theorem recAt_zero {l d : List UInt8} (h : recAt l = (0, d)) : ¬ l.length < 4 ∧ ¬ 65536 < len4 l ∧ ¬ l.length < len4 l + 8 ∧ openE ((l.drop 4).take (len4 l + 4)) = 0 ∧ d = openS ((l.drop 4).take (len4 l + 4)) := by
 by_cases h1 : l.length < 4
 ·rw [recAt_short h1] at h; simp at h
 ·by_cases h2 : 65536 < len4 l
  ·rw [recAt_form h1 h2] at h; simp at h
  ·by_cases h3 : l.length < len4 l + 8
   ·rw [recAt_torn h1 h2 h3] at h; simp at h
   ·by_cases h4 : openE ((l.drop 4).take (len4 l + 4)) = 0
    ·rw [recAt_ok h1 h2 h3 h4] at h
     simp only [Prod.mk.injEq, true_and] at h
     exact ⟨h1, h2, h3, h4, h.symm⟩
    ·rw [recAt_sum h1 h2 h3 h4] at h; simp at h
theorem len4_take {l : List UInt8} {j : Nat} (h : 4 ≤ j) : len4 (l.take j) = len4 l := by
 unfold len4
 rw [List.take_take, Nat.min_eq_left h]
theorem recAt_take {l d : List UInt8} {j : Nat} (h : recAt l = (0, d)) (hj : len4 l + 8 ≤ j) : recAt (l.take j) = (0, d) := by
 obtain ⟨h1, h2, h3, h4, h5⟩ := recAt_zero h
 have e : len4 (l.take j) = len4 l := len4_take (by omega)
 have hl : (l.take j).length = min j l.length := List.length_take
 have hb : ((l.take j).drop 4).take (len4 l + 4) = (l.drop 4).take (len4 l + 4) := by
  rw [List.drop_take, List.take_take, Nat.min_eq_left (by omega)]
 have := recAt_ok (l := l.take j) (by omega) (by omega) (by omega) (by rw [e, hb]; exact h4)
 rw [this, e, hb, h5]
def total (ds : List (List UInt8)) : Nat := (ds.map List.length).sum
def logOf (ds : List (List UInt8)) : List UInt8 := ds.flatMap frame
def endAt (ds : List (List UInt8)) (i : Nat) : Nat := (logOf (ds.take i)).length
theorem logOf_snoc (ds : List (List UInt8)) (d : List UInt8) : logOf (ds ++ [d]) = logOf ds ++ frame d := by simp [logOf]
theorem logOf_length (ds : List (List UInt8)) : (logOf ds).length = total ds + 8 * ds.length := by
 induction ds with
 | nil => simp [logOf, total]
 | cons d ds ih =>
  have e1 : logOf (d :: ds) = frame d ++ logOf ds := by simp [logOf]
  have e2 : total (d :: ds) = d.length + total ds := by simp [total]
  rw [e1, e2, List.length_append, frame_length, ih, List.length_cons]; omega
theorem take_snoc' (ds : List (List UInt8)) (i : Nat) (h : i < ds.length) : ds.take (i + 1) = ds.take i ++ [ds[i]] := by
 rw [List.take_succ_eq_append_getElem h]
theorem endAt_zero (ds : List (List UInt8)) : endAt ds 0 = 0 := by simp [endAt, logOf]
theorem endAt_succ (ds : List (List UInt8)) (i : Nat) (h : i < ds.length) : endAt ds (i + 1) = endAt ds i + ds[i].length + 8 := by
 unfold endAt
 rw [take_snoc' ds i h, logOf_snoc, List.length_append, frame_length]; omega
theorem logOf_drop (ds : List (List UInt8)) (i : Nat) : (logOf ds).drop (endAt ds i) = logOf (ds.drop i) := by
 have e : logOf ds = logOf (ds.take i) ++ logOf (ds.drop i) := by
  unfold logOf
  rw [← List.flatMap_append, List.take_append_drop]
 unfold endAt
 rw [e, List.drop_left]
theorem logOf_cons (ds : List (List UInt8)) (i : Nat) (h : i < ds.length) : logOf (ds.drop i) = frame ds[i] ++ logOf (ds.drop (i + 1)) := by
 unfold logOf
 rw [List.drop_eq_getElem_cons h, List.flatMap_cons]
theorem num_le4 (n : Nat) (h : n < 4294967296) : num (le4 n) = n := by
 simp only [le4, num, ofNat_toNat]; omega
theorem len4_frame (d rest : List UInt8) (h : d.length < 4294967296) : len4 (frame d ++ rest) = d.length := by
 unfold len4 frame
 rw [List.append_assoc, List.take_left' (by rfl), num_le4 _ h]
theorem frame_body (d rest : List UInt8) : ((frame d ++ rest).drop 4).take (d.length + 4) = seal4 d := by
 unfold frame
 rw [List.append_assoc, List.drop_left' (by rfl), List.take_left' (seal4_length d)]
theorem recAt_frame (d rest : List UInt8) (h : d.length ≤ 65536) : recAt (frame d ++ rest) = (0, d) := by
 have e := len4_frame d rest (by omega)
 have hl : (frame d ++ rest).length = d.length + 8 + rest.length := by rw [List.length_append, frame_length]
 have hb := frame_body d rest
 have := recAt_ok (l := frame d ++ rest) (by omega) (by omega) (by omega) (by rw [e, hb]; exact openE_seal d)
 rw [this, e, hb, openS_seal]
theorem recAt_part (d rest : List UInt8) (j : Nat) (h : d.length ≤ 65536) (hj : j < d.length + 8) : recAt ((frame d ++ rest).take j) = (38, []) := by
 have hl : ((frame d ++ rest).take j).length = j := by rw [List.length_take, List.length_append, frame_length]; omega
 by_cases h4 : j < 4
 ·exact recAt_short (by omega)
 ·have e : len4 ((frame d ++ rest).take j) = d.length := by rw [len4_take (by omega), len4_frame d rest (by omega)]
  exact recAt_torn (by omega) (by omega) (by omega)
theorem read_part (ds : List (List UInt8)) (n k : Nat) (hd : ∀ i (h : i < ds.length), ds[i].length ≤ 65536) (hk : k ≤ ds.length) (hn : n ≤ (logOf ds).length) (h1 : endAt ds k ≤ n) (h2 : k < ds.length → n < endAt ds (k + 1)) :
    read ((logOf ds).take n) = (ds.take k, endAt ds k, if endAt ds k = n then 0 else 38) := by
  have hl : ((logOf ds).take n).length = n := by rw [List.length_take]; omega
  have mono : ∀ i j, i ≤ j → j ≤ ds.length → endAt ds i ≤ endAt ds j := by
    intro i j hij
    induction j with
    | zero => intro _; have : i = 0 := by omega
              subst this; exact Nat.le_refl _
    | succ j ih =>
      intro hj
      rcases Nat.lt_or_ge i (j + 1) with h | h
      · have := ih (by omega) (by omega)
        rw [endAt_succ ds j (by omega)]; omega
      · have : i = j + 1 := by omega
        subst this; exact Nat.le_refl _
  have hdrop : ∀ i (h : i < ds.length), ((logOf ds).take n).drop (endAt ds i) = (frame ds[i] ++ logOf (ds.drop (i + 1))).take (n - endAt ds i) := by
    intro i h
    rw [List.drop_take, logOf_drop, logOf_cons ds i h]
  have key : ∀ i, i ≤ k → Done ((logOf ds).take n) (ds.take i) (endAt ds i) := by
    intro i
    induction i with
    | zero => intro _; rw [endAt_zero]; simpa using Done.start _
    | succ i ih =>
      intro hi
      have hi' : i < ds.length := by omega
      have hle := mono (i + 1) k hi hk
      have hs := endAt_succ ds i hi'
      have hdi := hd i hi'
      have hr : recAt (((logOf ds).take n).drop (endAt ds i)) = (0, ds[i]) := by
        rw [hdrop i hi']
        exact recAt_take (recAt_frame _ _ hdi) (by rw [len4_frame _ _ (by omega)]; omega)
      have hl4 : len4 (((logOf ds).take n).drop (endAt ds i)) = ds[i].length := by
        rw [hdrop i hi', len4_take (by omega), len4_frame _ _ (by omega)]
      have := (ih (by omega)).next (by omega) hr
      rw [hl4, ← hs, ← take_snoc' ds i hi'] at this
      exact this
  have hdone := key k (Nat.le_refl _)
  by_cases he : endAt ds k = n
  · rw [if_pos he]
    exact hdone.over (by omega)
  · rw [if_neg he]
    have hk' : k < ds.length := by
      rcases Nat.lt_or_ge k ds.length with h | h
      · exact h
      · have hkk : k = ds.length := by omega
        have : endAt ds k = (logOf ds).length := by unfold endAt; rw [hkk, List.take_length]
        omega
    have hlt := h2 hk'
    have hs := endAt_succ ds k hk'
    have hdk := hd k hk'
    have hr : recAt (((logOf ds).take n).drop (endAt ds k)) = (38, []) := by
      rw [hdrop k hk']
      exact recAt_part _ _ _ hdk (by omega)
    exact hdone.fail (by omega) hr (by decide)
end Crc
namespace Go.Proofs.YtilopjlcgmedgaaGreatDoor
open Go.ChangeShapes Go.WideShapes Go.ChangeAt Go.RowKit
set_option linter.unusedVariables false
set_option linter.unusedSimpArgs false
set_option maxRecDepth 100000
theorem take_str (s : ByteArray) (n : Nat) : s.extract 0 n = ⟨(s.data.toList.take n).toArray⟩ := by
 apply ByteArray.ext
 apply Array.ext'
 rw [Lib.extract_data]
 simp
set_option maxHeartbeats 400000 in
theorem open_any (s : ByteArray) (w : World) (hs : s.size ≤ 1000000000) :
  Calls Tryz.prog 69 #[.string s] w fun e w' => e = .returned (.tuple #[.string ⟨(Crc.openS s.data.toList).toArray⟩, .int .i64 (Crc.openE s.data.toList)]) ∧ Below w.heap.size w w' := by
 have hE := Lib.hid (rfl : Crc.openE s.data.toList = _)
 have hS := Lib.hid (rfl : Crc.openS s.data.toList = _)
 by_cases h4 : s.size < 4
 ·go_enter Tryz.func69, Tryz.ntmps69
  go_wp2
  go_ret2
  refine ⟨two_res _ _ _ _ ?_ ?_, Below.refl _ _⟩
  ·rw [Crc.openS, size_list, if_pos h4]
  ·rw [Crc.openE, size_list, if_pos h4]
 ·have htn : ((s.size : Int) - 4).toNat = s.size - 4 := by omega
  go_enter Tryz.func69, Tryz.ntmps69
  go_wp2
  go_region_with (go_at_call 91; refine (tail_any _ _ (by simp only [ByteArray.size_extract]; unfold maxLen; omega)).mono ?_; rintro e w' ⟨rfl, hb⟩)
  all_goals go_wp2
  all_goals (rename_i hcmp; rw [ByteArray.toList_eq, Lib.extract_to_end] at hcmp; simp only [Bool.not_eq_eq_eq_not, Bool.not_true, Bool.not_false, beq_eq_false_iff_ne, beq_iff_eq] at hcmp)
  all_goals go_ret2
  all_goals refine ⟨two_res _ _ _ _ ?_ ?_, ((Below.refl _ _).drew).trans hb⟩
  ·rw [Crc.openS, size_list, if_neg h4, if_neg hcmp]
  ·rw [Crc.openE, size_list, if_neg h4, if_neg hcmp]
  ·rw [Crc.openS, size_list, if_neg h4, if_pos hcmp]; exact take_str _ _
  ·rw [Crc.openE, size_list, if_neg h4, if_pos hcmp]
  ·rw [Crc.openS, size_list, if_neg h4, if_neg hcmp]
  ·rw [Crc.openE, size_list, if_neg h4, if_neg hcmp]
  ·rw [Crc.openS, size_list, if_neg h4, if_pos hcmp]; exact take_str _ _
  ·rw [Crc.openE, size_list, if_neg h4, if_pos hcmp]
def strs (ls : List (List UInt8)) : List Value := ls.map fun l => .string ⟨l.toArray⟩
theorem or_i64 (lo hi i : Nat) (hlo : lo < 2 ^ i) (hhi : hi % 2 ^ i = 0) (hb : lo + hi < 9223372036854775808) : bits .or .i64 (lo : Int) (hi : Int) = ((lo + hi : Nat) : Int) := by
 show IntKind.i64.wrap ((BitVec.ofInt 64 (lo : Int) ||| BitVec.ofInt 64 (hi : Int)).toNat : Int) = _
 rw [BitVec.toNat_or, ofInt_u64 lo (by omega), ofInt_u64 hi (by omega), Nat.or_comm, nat_join i hi lo hhi hlo, IntKind.wrap_i64, Nat.add_comm]
 omega
theorem or4 (x0 x1 x2 x3 : Nat) (h0 : x0 < 256) (h1 : x1 < 256) (h2 : x2 < 256) (h3 : x3 < 256) :
  bits .or .i64 (bits .or .i64 (bits .or .i64 (x0 : Int) ((x1 : Int) * 256)) ((x2 : Int) * 65536)) ((x3 : Int) * 16777216) = ((x0 + 256 * x1 + 65536 * x2 + 16777216 * x3 : Nat) : Int) := by
 have e1 : ((x1 : Int) * 256) = ((256 * x1 : Nat) : Int) := by omega
 have e2 : ((x2 : Int) * 65536) = ((65536 * x2 : Nat) : Int) := by omega
 have e3 : ((x3 : Int) * 16777216) = ((16777216 * x3 : Nat) : Int) := by omega
 rw [e1, e2, e3, or_i64 _ _ 8 (by omega) (by omega) (by omega), or_i64 _ _ 16 (by omega) (by omega) (by omega), or_i64 _ _ 24 (by omega) (by omega) (by omega)]
theorem info9 : (Tryz.prog.info? 9).map (fun i => (i.zero, i.size, i.bytes)) = some (some (.string ⟨#[]⟩), 1, 16) := by kernel_rfl
def ReadPost (L : List UInt8) (w : World) (e : Ending) (w' : World) : Prop :=
 ∃ v, e = .returned (.tuple #[v, .int .i64 ((Crc.read L).2.1 : Nat), .int .i64 (Crc.read L).2.2]) ∧ w'.ownsRow w.heap.size 9 1 v (Crc.read L).1.length (strs (Crc.read L).1) ∧ Below w.heap.size w w'
theorem ReadPost.mk {L : List UInt8} {w w' : World} {v : Value} {k : Nat} {x : Int} {ls : List (List UInt8)} (h : Crc.read L = (ls, k, x)) (ho : w'.ownsRow w.heap.size 9 1 v ls.length (strs ls)) (hb : Below w.heap.size w w') :
  ReadPost L w (.returned (.tuple #[v, .int .i64 k, .int .i64 x])) w' := ⟨v, by rw [h], by rw [h]; exact ho, hb⟩
theorem open_at (b : ByteArray) (X : List UInt8) (hX : b.data.toList = X) (w : World) (hs : b.size ≤ 1000000000) :
  Calls Tryz.prog 69 #[.string b] w fun e w' => e = .returned (.tuple #[.string ⟨(Crc.openS X).toArray⟩, .int .i64 (Crc.openE X)]) ∧ Below w.heap.size w w' := by
 subst hX; exact open_any b w hs
theorem rest_get (s : ByteArray) (k j : Nat) (h : j < (s.extract k s.size).size) (h' : j < (s.data.toList.drop k).length) : (s.extract k s.size)[j] = (s.data.toList.drop k)[j] := by
 have e := Lib.extract_to_end s k
 have : (s.extract k s.size)[j] = (s.extract k s.size).data.toList[j]'(by rw [e]; exact h') := rfl
 rw [this]
 simp only [e]
theorem rest_cut (s : ByteArray) (k n : Nat) : ((s.extract k s.size).extract 4 (n + 8)).data.toList = ((s.data.toList.drop k).drop 4).take (n + 4) := by
 rw [Lib.extract_data, Lib.extract_to_end, show n + 8 - 4 = n + 4 from by omega]
theorem open_is (b : ByteArray) (X d : List UInt8) (E : Int) (hX : b.data.toList = X) (hd : Crc.openS X = d) (hE : Crc.openE X = E) (w : World) (hs : b.size ≤ 1000000000) :
  Calls Tryz.prog 69 #[.string b] w fun e w' => e = .returned (.tuple #[.string ⟨d.toArray⟩, .int .i64 E]) ∧ Below w.heap.size w w' := by
 subst hd; subst hE; exact open_at b X hX w hs
theorem ownsRow_below {w w' : World} {B : Nat} {E : TypeId} {v : Value} {n : Nat} {xs : List Value} (h : w.ownsRow B E 1 v n xs) (hb : Below w.heap.size w w') : w'.ownsRow B E 1 v n xs := by
 obtain ⟨h1, h2⟩ := h
 refine ⟨h1, ?_⟩
 rcases h2 with h2 | ⟨g, cap, cur, e1, e2, e3, e4⟩
 ·exact .inl h2
 ·refine .inr ⟨g, cap, cur, e1, e2, ?_, e4⟩
  have hg : g < w.heap.size := by
   rcases Nat.lt_or_ge g w.heap.size with h | h
   ·exact h
   ·rw [Array.getElem?_eq_none h] at e3; cases e3
  rw [hb.block g hg]; exact e3
theorem cut_facts (s : ByteArray) (k n : Nat) (hs : s.size ≤ 1000000) : ∃ (X d : List UInt8) (E : Int), Hid (((s.extract k s.size).extract 4 (n + 8)).data.toList = X) ∧ Hid (Crc.openS X = d) ∧ Hid (Crc.openE X = E) ∧
  Hid (((s.data.toList.drop k).drop 4).take (n + 4) = X) ∧ Hid (((s.extract k s.size).extract 4 (n + 8)).size ≤ 1000000000) :=
 ⟨_, _, _, rest_cut s k n, rfl, rfl, rfl, by show _ ≤ _; simp only [ByteArray.size_extract]; omega⟩
theorem own_ge {w : World} {B : Nat} {E : TypeId} {v : Value} {n : Nat} {xs : List Value} (h : w.ownsRow B E 1 v n xs) : ∀ k, v.ownBlock = some k → B ≤ k := by
 intro k hk
 obtain ⟨_, h2⟩ := h
 rcases h2 with ⟨rfl, _⟩ | ⟨g, cap, cur, rfl, e2, _⟩
 ·simp [Value.ownBlock] at hk
 ·simp only [Value.ownBlock, Option.some.injEq] at hk; omega
theorem strs_snoc (ls : List (List UInt8)) (d : List UInt8) : strs (ls ++ [d]) = strs ls ++ [.string ⟨d.toArray⟩] := by simp [strs]
theorem rest_nums (s : ByteArray) (k : Nat) (h : ¬ s.size - k < 4) : ∃ x0 x1 x2 x3 : Nat, x0 < 256 ∧ x1 < 256 ∧ x2 < 256 ∧ x3 < 256 ∧
  (∀ h, ((s.extract k s.size)[0]'h).toNat = x0) ∧ (∀ h, ((s.extract k s.size)[1]'h).toNat = x1) ∧ (∀ h, ((s.extract k s.size)[2]'h).toNat = x2) ∧ (∀ h, ((s.extract k s.size)[3]'h).toNat = x3) ∧
  Crc.len4 (s.data.toList.drop k) = x0 + 256 * x1 + 65536 * x2 + 16777216 * x3 := by
 have hd : (s.data.toList.drop k).length = s.size - k := by rw [List.length_drop, size_list]
 refine ⟨_, _, _, _, UInt8.toNat_lt _, UInt8.toNat_lt _, UInt8.toNat_lt _, UInt8.toNat_lt _, fun h' => ?_, fun h' => ?_, fun h' => ?_, fun h' => ?_, Crc.len4_eq (by rw [hd]; exact h)⟩
 ·rw [rest_get s k 0 h' (by rw [hd]; omega)]
 ·rw [rest_get s k 1 h' (by rw [hd]; omega)]
 ·rw [rest_get s k 2 h' (by rw [hd]; omega)]
 ·rw [rest_get s k 3 h' (by rw [hd]; omega)]
set_option maxHeartbeats 1000000 in
theorem read_any (s : ByteArray) (w : World) (hs : s.size ≤ 1000000) :
  Calls Tryz.prog 45 #[.string s] w (ReadPost s.data.toList w) := by
 obtain ⟨i9, hi9, hz0, hz1, hz2⟩ := info_parts info9
 have hsl := size_list s
 have HSL := Lib.hid hsl
 go_enter Tryz.func45, Tryz.ntmps45
 go_wp2
 clear hsl
 go_loopw [5, 6] (fun v i wr => ∃ (k : Nat) (ls : List (List UInt8)), k ≤ s.size ∧ i = .int .i64 k ∧ wr.ownsRow w.heap.size 9 1 v ls.length (strs ls) ∧ Below w.heap.size w wr ∧ Crc.Done s.data.toList ls k) (fun _ i _ => s.size - (intOf i).toNat)
 case atStart => exact ⟨0, [], Nat.zero_le _, rfl, ⟨rfl, .inl ⟨rfl, rfl⟩⟩, Below.refl _ _, Crc.Done.start _⟩
 case round =>
  obtain ⟨k, ls, hk, rfl, hown, hbk, hdone⟩ := hrel
  have HD := Lib.hid hdone
  have HDN := Lib.hid (Crc.Done.count hdone)
  clear hdone
  by_cases hlt : k < s.size
  ·have hkl : k < s.data.toList.length := by rw [HSL.out]; exact hlt
   have hdl : (s.data.toList.drop k).length = s.size - k := by rw [List.length_drop, HSL.out]
   have HDL := Lib.hid hdl
   clear hdl
   by_cases h4 : s.size - k < 4
   ·go_wp2
    go_ret3
    exact (ReadPost.mk (HD.out.fail hkl (Crc.recAt_short (by rw [HDL.out]; exact h4)) (by decide)) hown hbk)
   ·have i0 : 0 < s.size - k := by omega
    have i1 : (1 : Int) < ((s.size - k : Nat) : Int) := by omega
    have i2 : (2 : Int) < ((s.size - k : Nat) : Int) := by omega
    have i3 : (3 : Int) < ((s.size - k : Nat) : Int) := by omega
    obtain ⟨x0, x1, x2, x3, l0, l1, l2, l3, g0, g1, g2, g3, hlen⟩ := rest_nums s k h4
    have hor := or4 x0 x1 x2 x3 l0 l1 l2 l3
    rw [← hlen] at hor
    have HLEN := Lib.hid hlen
    clear hlen
    generalize hn : Crc.len4 (s.data.toList.drop k) = n at *
    have HN := Lib.hid hn
    clear hn
    go_wp2
    go_region
    clear l0 l1 l2 l3 i0 i1 i2 i3 g0 g1 g2 g3 hor
    by_cases hform : 65536 < n
    ·go_wp2_with fail
     go_ret3
     exact (ReadPost.mk (HD.out.fail hkl (Crc.recAt_form (by rw [HDL.out]; exact h4) (by rw [HN.out]; exact hform)) (by decide)) hown hbk.drew)
    ·by_cases htorn : s.size - k < n + 8
     ·go_wp2_with fail
      go_ret3
      exact (ReadPost.mk (HD.out.fail hkl (Crc.recAt_torn (by rw [HDL.out]; exact h4) (by rw [HN.out]; exact hform) (by rw [HN.out, HDL.out]; exact htorn)) (by decide)) hown hbk.drew)
     ·have j1 : (4 : Int) ≤ 4 + (n : Int) + 4 := by omega
      have j2 : 4 + (n : Int) + 4 ≤ ((s.size - k : Nat) : Int) := by omega
      have j3 : (0 : Int) ≤ 4 + (n : Int) + 4 := by omega
      have j4 : (4 + (n : Int) + 4).toNat = n + 8 := by omega
      go_wp2_with fail
      clear j1 j2 j3 j4
      obtain ⟨X, d, E, HX, HD2, HE, HY, HXS⟩ := cut_facts s k n hs
      by_cases h0 : E = 0
      ·subst h0
       have hok : Crc.recAt (s.data.toList.drop k) = (0, d) := by
        have := Crc.recAt_ok (l := s.data.toList.drop k) (by rw [HDL.out]; exact h4) (by rw [HN.out]; exact hform) (by rw [HN.out, HDL.out]; exact htorn) (by rw [HN.out, HY.out]; exact HE.out)
        rw [HN.out, HY.out, HD2.out] at this
        exact this
       have HOK := Lib.hid hok
       clear hok
       refine (open_is _ X d 0 HX.out HD2.out HE.out _ HXS.out).mono ?_
       rintro e w1 ⟨rfl, hb0⟩
       have hb1 : Below wr.heap.size wr w1 := ((Below.refl _ _).drew).trans hb0
       clear hb0
       have hz : wr.heap.size ≤ w1.heap.size := hb1.size
       have hown1 : w1.ownsRow w.heap.size 9 1 u5 ls.length (strs ls) := ownsRow_below hown hb1
       have hbw : Below w.heap.size w w1 := hbk.trans (hb1.mono hbk.size)
       have hbs : w.heap.size ≤ w1.heap.size := hbw.size
       have hll : ls.length ≤ 1000000 := by have := HDN.out; omega
       clear hz hb1 hbk hown HX HXS HE HY HDL
       go_wp2_with (at_builtin; refine wpList_append_own _ rfl _ _ 61 rfl w.heap.size 9 i9 (.string ⟨#[]⟩) 1 16 Tryz.underlying61 hi9 hz0 hz1 hz2 rfl (by decide) _ _ _ rfl (hown1.alloc _) ⟨w1.heap.size, 0, none⟩ 1 1 [.string ⟨d.toArray⟩] rfl rfl ?c1 ?c2 ?c3 ?c4 ?c5 ?_)
       case c1 =>
        intro j u hj
        match j with
        | 0 =>
         simp only [List.getElem?_cons_zero, Option.some.injEq] at hj
         subst hj
         simp [go_sem]
        | j + 1 => simp at hj
       case c2 => intro u hu; simp only [List.mem_singleton] at hu; subst hu; rfl
       case c3 => unfold maxLen; omega
       case c4 => omega
       case c5 => simp; omega
       intro v' w2 hown2 hgrow _
       have hb2 : Below w.heap.size w w2 := (hbw.alloc hbs _).grown hgrow (by simp; omega) (own_ge hown1)
       have hown3 : w2.ownsRow w.heap.size 9 1 v' (ls ++ [d]).length (strs (ls ++ [d])) := by rw [List.length_append, strs_snoc]; exact hown2
       clear hown2 hgrow hown1 hbw
       go_wp2_with fail
       go_roundw
       case rel => exact ⟨k + n + 8, ls ++ [d], by omega, by go_num, hown3, hb2, by have := HD.out.next hkl HOK.out; rw [HN.out] at this; exact this⟩
       case measure => simp [intOf]; omega
      ·have hne : (E != 0) = true := by simpa using h0
       refine (open_is _ X d E HX.out HD2.out HE.out _ HXS.out).mono ?_
       rintro e w1 ⟨rfl, hb0⟩
       have hb1 : Below wr.heap.size wr w1 := ((Below.refl _ _).drew).trans hb0
       clear hb0
       go_wp2_with fail
       go_ret3
       exact (ReadPost.mk (HD.out.fail hkl (Crc.recAt_sum (by rw [HDL.out]; exact h4) (by rw [HN.out]; exact hform) (by rw [HN.out, HDL.out]; exact htorn) (by rw [HN.out, HY.out, HE.out]; exact h0)) (by decide)) (ownsRow_below hown hb1) (hbk.trans (hb1.mono hbk.size)))
  ·go_wp2
   go_ret3
   exact (ReadPost.mk (HD.out.over (by rw [HSL.out]; omega)) hown hbk)
def StrsAt (w : World) (v : Value) (ls : List (List UInt8)) : Prop :=
 (v = .slice none 0 0 ∧ ls = []) ∨ ∃ B o cap, v = .slice (some ⟨B, o, none⟩) ls.length cap ∧ B < w.heap.size ∧ ∀ j (h : j < ls.length), w.cell? ⟨B, o + j, none⟩ = some (.string ⟨ls[j].toArray⟩)
theorem StrsAt.below {w w' : World} {v : Value} {ls : List (List UInt8)} (h : StrsAt w v ls) (hb : Below w.heap.size w w') : StrsAt w' v ls := by
 rcases h with h | ⟨B, o, cap, h1, h2, h3⟩
 ·exact .inl h
 ·exact .inr ⟨B, o, cap, h1, Nat.lt_of_lt_of_le h2 hb.size, fun j hj => by rw [hb.cell (p := ⟨B, o + j, none⟩) h2]; exact h3 j hj⟩
theorem StrsAt.of_owns {w : World} {B : Nat} {v : Value} {ls : List (List UInt8)} (h : w.ownsRow B 9 1 v ls.length (strs ls)) : StrsAt w v ls := by
 obtain ⟨_, h2⟩ := h
 rcases h2 with ⟨h1, h0⟩ | ⟨g, cap, cur, e1, e2, e3, e4, e5, e6, e7⟩
 ·exact .inl ⟨h1, List.eq_nil_of_length_eq_zero h0⟩
 ·refine .inr ⟨g, 0, cap, e1, ?_, fun j hj => ?_⟩
  ·rcases Nat.lt_or_ge g w.heap.size with h | h
   ·exact h
   ·rw [Array.getElem?_eq_none h] at e3; cases e3
  ·have hc : cur[j]? = some (.string ⟨ls[j].toArray⟩) := by
    have : (cur.toList.take (ls.length * 1))[j]? = (strs ls)[j]? := by rw [e7]
    rw [List.getElem?_take_of_lt (by omega)] at this
    rw [← Array.getElem?_toList, this]
    simp [strs, hj]
   simp [World.cell?, e3, hc]
def ReadPost2 (L : List UInt8) (w : World) (e : Ending) (w' : World) : Prop :=
 ∃ v, e = .returned (.tuple #[v, .int .i64 ((Crc.read L).2.1 : Nat), .int .i64 (Crc.read L).2.2]) ∧ StrsAt w' v (Crc.read L).1 ∧ Below w.heap.size w w'
theorem read_call (s : ByteArray) (w : World) (hs : s.size ≤ 1000000) : Calls Tryz.prog 45 #[.string s] w (ReadPost2 s.data.toList w) :=
 (read_any s w hs).mono fun e w' ⟨v, h1, h2, h3⟩ => ⟨v, h1, .of_owns h2, h3⟩
theorem two_res2 (v : Value) (b c : ByteArray) (h : b = c) : Ending.returned (.tuple #[v, .string b]) = .returned (.tuple #[v, .string c]) := by rw [h]
def RecPost (L : List UInt8) (w : World) (e : Ending) (w' : World) : Prop :=
 ∃ v, e = .returned (.tuple #[v, .string ⟨(L.take (Crc.read L).2.1).toArray⟩]) ∧ StrsAt w' v (Crc.read L).1 ∧ Below w.heap.size w w'
theorem recover_any (s : ByteArray) (w : World) (hs : s.size ≤ 1000000) (hr : (Crc.read s.data.toList).2.1 ≤ s.size) :
  Calls Tryz.prog 23 #[.string s] w (RecPost s.data.toList w) := by
 go_enter Tryz.func23, Tryz.ntmps23
 go_wp2_with fail
 refine (read_call _ _ hs).mono ?_
 rintro e w1 ⟨v, rfl, hv, hb⟩
 have HV := Lib.hid hv
 clear hv
 generalize hk : (Crc.read s.data.toList).2.1 = k at *
 have HK := Lib.hid hk
 clear hk
 go_wp2_with fail
 go_region
 go_wp2
 go_ret2
 exact ⟨v, two_res2 _ _ _ (by rw [HK.out]; exact take_str _ _), HV.out, hb.drew⟩
open Go.ChangeMaps Go.Joins Go.Deep
theorem info_chg : (Tryz.prog.info? 39).map (·.size) = some 4 := by kernel_rfl
theorem zero_chg : (Tryz.prog.info? 39).bind (·.zero) = some (.agg (List.toArray [.string ⟨#[]⟩, .string ⟨#[]⟩, .string ⟨#[]⟩, .bool false])) := by kernel_rfl
theorem info_erec : (Tryz.prog.info? 58).map (·.size) = some 3 := by kernel_rfl
theorem zero_erec : (Tryz.prog.info? 58).bind (·.zero) = some (.agg (List.toArray [.int .i64 0, .int .i64 0, .slice none 0 0])) := by kernel_rfl
theorem info_chgs : (Tryz.prog.info? 40).map (·.size) = some 1 := by kernel_rfl
theorem sz_chgs : ((Tryz.prog.info? 40).map (·.size)).getD 0 ≠ 0 := by rw [info_chgs]; decide
theorem nb_nat (n : Nat) : numB n = Tr.nb (n : Int) := by
 unfold numB Tr.nb Tr.zz
 rw [if_pos (by omega)]
 congr 1
theorem ebyte_any (R : Nat) (s : ByteArray) (hs : s.size ≤ 1000000000) (p : Nat) (c : UInt8) (hc : s.data.toList[p]? = some c) (w : World) (hRd : Box w R [.string s, .int .i64 (p : Int), .bool true]) : Calls Tryz.prog 46 #[.pointer (some ⟨R, 0, none⟩)] w fun e w' => e = .returned (.int .i64 ((c.toNat : Nat) : Int)) ∧ Box w' R [.string s, .int .i64 ((p + 1 : Nat) : Int), .bool true] ∧ w.grownBy w' (some R) := by
 have hps : p < s.size := by have := (List.getElem?_eq_some_iff.1 hc).1; rwa [size_list] at this
 have hcs : s[p]'hps = c := Option.some.inj ((str_at hps).symm.trans hc)
 refine cv1 Tryz.func46 rfl rfl rfl fun a hf => ?_
 have hX := Bx.start w
 clear hX
 have hX0 := Bx.bare w (fun k => k ≠ R)
 have hX := hX0.add hRd (Nat.zero_le _) (fun x h => by cases h) (fun p hp _ => by rw [List.mem_singleton.1 hp]; exact fun h => h rfl)
 clear hX0
 refine gc hf ?_
 intro a hf
 refine wp_region_ordW 17 16 [(0, 0), (1, 0), (2, 0), (3, 1), (4, 0), (5, 0), (6, 0), (7, 0), (8, 0), (9, 1), (10, 0), (11, 0), (12, 0), (13, 1), (14, 0), (15, 0), (16, 3)] (fun X => Bx ⟨bare w, [(w, fun k => k ≠ R)]⟩ [(R, [.string s, .int .i64 (p : Int), .bool true])] X) mixed (by kernel_rfl) hX.drew (fun c a d v w h => by cases d <;> exact h) ?_
 replace hX := hX.drew
 refine o0 hf fun a hf => ?_
 refine o0 hf fun a hf => ?_
 refine ov0 (v := .pointer (some ⟨R, 2, none⟩)) hf rfl rfl dd rfl (fun X => ex_vfld (2) hf rfl rfl Tryz.underlying98 rfl sz_bool rfl) (fun a hf => ?_)
 refine ov1 (v := .bool true) hf rfl rfl dd rfl (fun X hS => ex_vlc (cs := [.string s, .int .i64 (p : Int), .bool true]) hf rfl rfl (hS.get (i := 0) rfl) rfl u4 rfl) (fun a hf => ?_)
 refine o0 hf fun a hf => ?_
 refine o0 hf fun a hf => ?_
 refine ov0 (v := .pointer (some ⟨R, 0, none⟩)) hf rfl rfl dd (wanted_known hf rfl rfl rfl) (fun X => ex_vmv hf rfl rfl) (fun a hf => ?_)
 refine ov0 (v := .pointer (some ⟨R, 0, none⟩)) hf rfl rfl dd (wanted_known hf rfl rfl rfl) (fun X => ex_nilc hf rfl rfl) (fun a hf => ?_)
 refine ov0 (v := .pointer (some ⟨R, 1, none⟩)) hf rfl rfl dd (wanted_known hf rfl rfl rfl) (fun X => ex_vfld (1) hf rfl rfl Tryz.underlying98 rfl sz_int rfl) (fun a hf => ?_)
 refine ov1 (v := .int .i64 (p : Int)) hf rfl rfl dd (wanted_known hf rfl rfl rfl) (fun X hS => ex_vlc (cs := [.string s, .int .i64 (p : Int), .bool true]) hf rfl rfl (hS.get (i := 0) rfl) rfl u3 rfl) (fun a hf => ?_)
 refine ov0 (v := .pointer (some ⟨R, 0, none⟩)) hf rfl rfl dd (wanted_known hf rfl rfl rfl) (fun X => ex_vmv hf rfl rfl) (fun a hf => ?_)
 refine ov0 (v := .pointer (some ⟨R, 0, none⟩)) hf rfl rfl dd (wanted_known hf rfl rfl rfl) (fun X => ex_nilc hf rfl rfl) (fun a hf => ?_)
 refine ov0 (v := .pointer (some ⟨R, 0, none⟩)) hf rfl rfl dd (wanted_known hf rfl rfl rfl) (fun X => ex_vfld (0) hf rfl rfl Tryz.underlying98 rfl sz_str rfl) (fun a hf => ?_)
 refine ov1 (v := .string s) hf rfl rfl dd (wanted_known hf rfl rfl rfl) (fun X hS => ex_vlc (cs := [.string s, .int .i64 (p : Int), .bool true]) hf rfl rfl (hS.get (i := 0) rfl) rfl u9 rfl) (fun a hf => ?_)
 refine ov0 (v := .int .i64 ((s).size : Int)) hf rfl rfl dd (wanted_known hf rfl rfl rfl) (fun X => ex_lens hf rfl rfl u9) (fun a hf => ?_)
 refine ov0 hf rfl rfl dd (wanted_known hf rfl rfl rfl) (fun X => ex_cmp (b := false) hf rfl rfl rfl (congrArg some (decide_eq_false (by omega)))) (fun a hf => ?_)
 refine ov3v (v := .bool false) hf rfl rfl dd rfl (ex_pk (b := false) hf rfl rfl rfl) (fun a hf => ?_)
 refine wpOrd_nil ?_
 refine gc hf ?_
 intro a hf
 refine sv_fld hf rfl Tryz.underlying98 rfl sz_int (1) rfl dd (fun a hf => ?_)
 refine go hf ?_
 intro a hf
 refine sv_add ((p + 1 : Nat) : Int) hf rfl rfl (by rw [wrap_in (by omega)]; rfl) dd (fun a hf => ?_)
 refine go hf ?_
 intro a hf
 refine sv_fld hf rfl Tryz.underlying98 rfl sz_int (1) rfl dd (fun a hf => ?_)
 refine sv_sc (cs' := [.string s, .int .i64 ((p + 1 : Nat) : Int), .bool true]) hf hX rfl rfl 0 rfl dd rfl info_int rfl [(R, [.string s, .int .i64 ((p + 1 : Nat) : Int), .bool true])] rfl (fun W hX hO => ?_)
 clear hO
 refine go hf ?_
 intro a hf
 refine wp_region_ordW 12 11 [(0, 0), (1, 0), (2, 0), (3, 1), (4, 0), (5, 0), (6, 0), (7, 1), (8, 0), (9, 0), (10, 0), (11, 3)] (fun X => Bx ⟨bare w, [(w, fun k => k ≠ R)]⟩ [(R, [.string s, .int .i64 ((p + 1 : Nat) : Int), .bool true])] X) mixed (by kernel_rfl) hX.drew (fun c a d v w h => by cases d <;> exact h) ?_
 replace hX := hX.drew
 refine o0 hf fun a hf => ?_
 refine o0 hf fun a hf => ?_
 refine ov0 (v := .pointer (some ⟨R, 0, none⟩)) hf rfl rfl dd rfl (fun X => ex_vfld (0) hf rfl rfl Tryz.underlying98 rfl sz_str rfl) (fun a hf => ?_)
 refine ov1 (v := .string s) hf rfl rfl dd rfl (fun X hS => ex_vlc (cs := [.string s, .int .i64 ((p + 1 : Nat) : Int), .bool true]) hf rfl rfl (hS.get (i := 0) rfl) rfl u9 rfl) (fun a hf => ?_)
 refine o0 hf fun a hf => ?_
 refine o0 hf fun a hf => ?_
 refine ov0 (v := .pointer (some ⟨R, 1, none⟩)) hf rfl rfl dd rfl (fun X => ex_vfld (1) hf rfl rfl Tryz.underlying98 rfl sz_int rfl) (fun a hf => ?_)
 refine ov1 (v := .int .i64 ((p + 1 : Nat) : Int)) hf rfl rfl dd rfl (fun X hS => ex_vlc (cs := [.string s, .int .i64 ((p + 1 : Nat) : Int), .bool true]) hf rfl rfl (hS.get (i := 0) rfl) rfl u3 rfl) (fun a hf => ?_)
 refine ov0 (v := .int .i64 (p : Int)) hf rfl rfl dd rfl (fun X => ex_sub hf rfl rfl rfl (by have h9 := wrap_in (m := ((p + 1 : Nat) : Int) - 1) (by omega); omega)) (fun a hf => ?_)
 refine ov0 (v := .int .u8 ((c.toNat : Nat) : Int)) hf rfl rfl dd rfl (fun X => (by rw [← hcs]; exact ex_chr (k := p) hf rfl rfl rfl u9 hps)) (fun a hf => ?_)
 refine ov0 (v := .int .i64 ((c.toNat : Nat) : Int)) hf rfl rfl dd rfl (fun X => ex_cv83 hf rfl rfl) (fun a hf => ?_)
 refine ov3v (v := .int .i64 ((c.toNat : Nat) : Int)) hf rfl rfl dd rfl (ex_vas hf rfl rfl) (fun a hf => ?_)
 refine wpOrd_nil ?_
 refine wp_ret ?_
 try simp only [Exit.inBlock, Exit.then]
 exact rt hf rfl rfl ⟨rfl, hX.get (i := 0) rfl, ⟨hX.low.os, hX.low.tape, hX.low.output, (hX.bas _ List.mem_cons_self).1, fun k hk hne => (hX.bas _ List.mem_cons_self).2 k hk (fun e => hne (by rw [e]))⟩⟩
theorem enum_any (R : Nat) (s : ByteArray) (hs : s.size ≤ 1000000000) (p : Nat) (n : Int) (hn : wfI n) (post : List UInt8) (hp : s.data.toList.drop p = Tr.nb n ++ post) (w : World) (hRd : Box w R [.string s, .int .i64 (p : Int), .bool true]) : Calls Tryz.prog 47 #[.pointer (some ⟨R, 0, none⟩)] w fun e w' => e = .returned (.int .i64 n) ∧ Box w' R [.string s, .int .i64 ((p + (Tr.nb n).length : Nat) : Int), .bool true] ∧ w.grownBy w' (some R) := by
 refine cv1 Tryz.func47 rfl rfl rfl fun a hf => ?_
 have hX := Bx.start w
 clear hX
 have hX0 := Bx.bare w (fun k => k ≠ R)
 have hX := hX0.add hRd (Nat.zero_le _) (fun x h => by cases h) (fun p hp _ => by rw [List.mem_singleton.1 hp]; exact fun h => h rfl)
 clear hX0
 refine gc hf ?_
 intro a hf
 refine sv_fld hf rfl Tryz.underlying98 rfl sz_bool (2) rfl dd (fun a hf => ?_)
 refine sv_lc hf hX rfl 0 rfl rfl u4 rfl dd (fun a hf => ?_)
 refine go hf ?_
 intro a hf
 refine wp_region_ordW 16 15 [(0, 0), (1, 0), (2, 0), (3, 1), (4, 0), (5, 0), (6, 0), (7, 1), (8, 2), (9, 0), (10, 0), (11, 0), (12, 0), (13, 0), (14, 0), (15, 3)] (fun X => Bx ⟨bare w, [(w, fun k => k ≠ R)]⟩ [(R, [.string s, .int .i64 (p : Int), .bool true])] X) mixed (by kernel_rfl) hX.drew (fun c a d v w h => by cases d <;> exact h) ?_
 replace hX := hX.drew
 refine o0 hf fun a hf => ?_
 refine o0 hf fun a hf => ?_
 refine ov0 (v := .pointer (some ⟨R, 0, none⟩)) hf rfl rfl dd rfl (fun X => ex_vfld (0) hf rfl rfl Tryz.underlying98 rfl sz_str rfl) (fun a hf => ?_)
 refine ov1 (v := .string s) hf rfl rfl dd rfl (fun X hS => ex_vlc (cs := [.string s, .int .i64 (p : Int), .bool true]) hf rfl rfl (hS.get (i := 0) rfl) rfl u9 rfl) (fun a hf => ?_)
 refine o0 hf fun a hf => ?_
 refine o0 hf fun a hf => ?_
 refine ov0 (v := .pointer (some ⟨R, 1, none⟩)) hf rfl rfl dd rfl (fun X => ex_vfld (1) hf rfl rfl Tryz.underlying98 rfl sz_int rfl) (fun a hf => ?_)
 refine ov1 (v := .int .i64 (p : Int)) hf rfl rfl dd rfl (fun X hS => ex_vlc (cs := [.string s, .int .i64 (p : Int), .bool true]) hf rfl rfl (hS.get (i := 0) rfl) rfl u3 rfl) (fun a hf => ?_)
 refine ov2c hf rfl rfl dd rfl rfl fnOK_70 rfl (readnum_any s hs p n hn post hp _) ?_
 rintro e W ⟨rfl, hb⟩
 replace hX := hX.keep hb
 clear hb
 refine ⟨_, rfl, hX, fun a hf => ?_⟩
 refine o0 hf fun a hf => ?_
 refine ov0 (v := .int .i64 n) hf rfl rfl dd rfl (fun X => ex_vext hf rfl rfl rfl) (fun a hf => ?_)
 refine ov0 (v := .int .i64 ((p + (Tr.nb n).length : Nat) : Int)) hf rfl rfl dd rfl (fun X => ex_vext hf rfl rfl rfl) (fun a hf => ?_)
 refine ov0 (v := .int .i64 0) hf rfl rfl dd rfl (fun X => ex_vext hf rfl rfl rfl) (fun a hf => ?_)
 refine o0 hf fun a hf => ?_
 refine o0 hf fun a hf => ?_
 refine ov3v (v := .int .i64 0) hf rfl rfl dd rfl (ex_vas hf rfl rfl) (fun a hf => ?_)
 refine wpOrd_nil ?_
 refine gc hf ?_
 intro a hf
 refine sv_fld hf rfl Tryz.underlying98 rfl sz_int (1) rfl dd (fun a hf => ?_)
 refine sv_sc (cs' := [.string s, .int .i64 ((p + (Tr.nb n).length : Nat) : Int), .bool true]) hf hX rfl rfl 0 rfl dd rfl info_int rfl [(R, [.string s, .int .i64 ((p + (Tr.nb n).length : Nat) : Int), .bool true])] rfl (fun W hX hO => ?_)
 clear hO
 refine go hf ?_
 intro a hf
 exact rt hf rfl rfl ⟨rfl, hX.get (i := 0) rfl, ⟨hX.low.os, hX.low.tape, hX.low.output, (hX.bas _ List.mem_cons_self).1, fun k hk hne => (hX.bas _ List.mem_cons_self).2 k hk (fun e => hne (by rw [e]))⟩⟩
theorem estr_any (R : Nat) (s : ByteArray) (hs : s.size ≤ 1000000000) (p : Nat) (x : ByteArray) (hx : x.size ≤ 1000000000) (post : List UInt8) (hp : s.data.toList.drop p = (Tr.nb x.size ++ x.data.toList) ++ post) (w : World) (hRd : Box w R [.string s, .int .i64 (p : Int), .bool true]) : Calls Tryz.prog 71 #[.pointer (some ⟨R, 0, none⟩)] w fun e w' => e = .returned (.string x) ∧ Box w' R [.string s, .int .i64 ((p + (Tr.nb x.size ++ x.data.toList).length : Nat) : Int), .bool true] ∧ w.grownBy w' (some R) := by
 rw [List.append_assoc] at hp
 have hq := drop_next hp
 have hmk : mkS ((s.data.toList.drop (p + (Tr.nb x.size).length)).take x.size) = x := by
  rw [hq, List.take_append_of_le_length (by rw [size_list]; exact Nat.le_refl _), List.take_of_length_le (by rw [size_list]; exact Nat.le_refl _)]
  obtain ⟨⟨l⟩⟩ := x
  rfl
 have hps : p + (Tr.nb x.size).length + x.size ≤ s.size := by
  have h1 := congrArg List.length hq
  rw [List.length_drop, List.length_append, size_list, size_list] at h1
  have h2 := congrArg List.length hp
  rw [List.length_drop, List.length_append, List.length_append, size_list, size_list] at h2
  have h3 := vlq_pos (Tr.zz x.size)
  have h4 : (Tr.nb x.size).length = (vlq (Tr.zz x.size)).length := rfl
  omega
 obtain ⟨g, hg0⟩ : ∃ g, g = p + (Tr.nb x.size).length := ⟨_, rfl⟩
 rw [← hg0] at hq hmk hps
 refine cv1 Tryz.func71 rfl rfl rfl fun a hf => ?_
 have hX := Bx.start w
 clear hX
 have hX0 := Bx.bare w (fun k => k ≠ R)
 have hX := hX0.add hRd (Nat.zero_le _) (fun x h => by cases h) (fun p hp _ => by rw [List.mem_singleton.1 hp]; exact fun h => h rfl)
 clear hX0
 refine gc hf ?_
 intro a hf
 refine sv_call hf fnOK_47 rfl (enum_any R s hs p (x.size : Int) (wf_nat (by omega)) _ hp _ (hX.get (i := 0) rfl)) dd ?_
 rw [← hg0]
 rintro e W2 ⟨rfl, hb, hg⟩
 replace hX : Bx ⟨bare w, [(w, fun k => k ≠ R)]⟩ [(R, [.string s, .int .i64 (g : Int), .bool true])] W2 := hX.turn (i := 0) rfl hg hb
 clear hb hg
 obtain ⟨W, hWW⟩ : ∃ X, X = W2 := ⟨_, rfl⟩
 subst hWW
 refine ⟨_, rfl, fun a hf => ?_⟩
 refine go hf ?_
 intro a hf
 refine wp_region_ordW 23 22 [(0, 0), (1, 0), (2, 0), (3, 1), (4, 0), (5, 0), (6, 0), (7, 0), (8, 0), (9, 0), (10, 0), (11, 0), (12, 0), (13, 0), (14, 1), (15, 0), (16, 0), (17, 0), (18, 0), (19, 1), (20, 0), (21, 0), (22, 3)] (fun X => Bx ⟨bare w, [(w, fun k => k ≠ R)]⟩ [(R, [.string s, .int .i64 (g : Int), .bool true])] X) mixed (by kernel_rfl) hX.drew (fun c a d v w h => by cases d <;> exact h) ?_
 replace hX := hX.drew
 refine o0 hf fun a hf => ?_
 refine o0 hf fun a hf => ?_
 refine ov0 (v := .pointer (some ⟨R, 2, none⟩)) hf rfl rfl dd rfl (fun X => ex_vfld (2) hf rfl rfl Tryz.underlying98 rfl sz_bool rfl) (fun a hf => ?_)
 refine ov1 (v := .bool true) hf rfl rfl dd rfl (fun X hS => ex_vlc (cs := [.string s, .int .i64 (g : Int), .bool true]) hf rfl rfl (hS.get (i := 0) rfl) rfl u4 rfl) (fun a hf => ?_)
 refine o0 hf fun a hf => ?_
 refine o0 hf fun a hf => ?_
 refine ov0 (v := .int .i64 (x.size : Int)) hf rfl rfl dd (wanted_known hf rfl rfl rfl) (fun X => ex_vmv hf rfl rfl) (fun a hf => ?_)
 refine ov0 hf rfl rfl dd (wanted_known hf rfl rfl rfl) (fun X => ex_cmp (b := false) hf rfl rfl rfl (congrArg some (decide_eq_false (by omega)))) (fun a hf => ?_)
 refine o0 hf fun a hf => ?_
 refine o0 hf fun a hf => ?_
 refine ov0 (v := .int .i64 (x.size : Int)) hf rfl rfl dd (wanted_known hf rfl rfl rfl) (fun X => ex_vmv hf rfl rfl) (fun a hf => ?_)
 refine ov0 (v := .pointer (some ⟨R, 0, none⟩)) hf rfl rfl dd (wanted_known hf rfl rfl rfl) (fun X => ex_vmv hf rfl rfl) (fun a hf => ?_)
 refine ov0 (v := .pointer (some ⟨R, 0, none⟩)) hf rfl rfl dd (wanted_known hf rfl rfl rfl) (fun X => ex_nilc hf rfl rfl) (fun a hf => ?_)
 refine ov0 (v := .pointer (some ⟨R, 0, none⟩)) hf rfl rfl dd (wanted_known hf rfl rfl rfl) (fun X => ex_vfld (0) hf rfl rfl Tryz.underlying98 rfl sz_str rfl) (fun a hf => ?_)
 refine ov1 (v := .string s) hf rfl rfl dd (wanted_known hf rfl rfl rfl) (fun X hS => ex_vlc (cs := [.string s, .int .i64 (g : Int), .bool true]) hf rfl rfl (hS.get (i := 0) rfl) rfl u9 rfl) (fun a hf => ?_)
 refine ov0 (v := .int .i64 ((s).size : Int)) hf rfl rfl dd (wanted_known hf rfl rfl rfl) (fun X => ex_lens hf rfl rfl u9) (fun a hf => ?_)
 refine ov0 (v := .pointer (some ⟨R, 0, none⟩)) hf rfl rfl dd (wanted_known hf rfl rfl rfl) (fun X => ex_vmv hf rfl rfl) (fun a hf => ?_)
 refine ov0 (v := .pointer (some ⟨R, 0, none⟩)) hf rfl rfl dd (wanted_known hf rfl rfl rfl) (fun X => ex_nilc hf rfl rfl) (fun a hf => ?_)
 refine ov0 (v := .pointer (some ⟨R, 1, none⟩)) hf rfl rfl dd (wanted_known hf rfl rfl rfl) (fun X => ex_vfld (1) hf rfl rfl Tryz.underlying98 rfl sz_int rfl) (fun a hf => ?_)
 refine ov1 (v := .int .i64 (g : Int)) hf rfl rfl dd (wanted_known hf rfl rfl rfl) (fun X hS => ex_vlc (cs := [.string s, .int .i64 (g : Int), .bool true]) hf rfl rfl (hS.get (i := 0) rfl) rfl u3 rfl) (fun a hf => ?_)
 refine ov0 (v := .int .i64 ((s.size : Int) - (g : Int))) hf rfl rfl dd (wanted_known hf rfl rfl rfl) (fun X => ex_sub hf rfl rfl rfl (wrap_in (by omega))) (fun a hf => ?_)
 refine ov0 hf rfl rfl dd (wanted_known hf rfl rfl rfl) (fun X => ex_cmp (b := false) hf rfl rfl rfl (congrArg some (decide_eq_false (by omega)))) (fun a hf => ?_)
 refine ov3v (v := .bool false) hf rfl rfl dd rfl (ex_pk (b := false) hf rfl rfl rfl) (fun a hf => ?_)
 refine wpOrd_nil ?_
 refine gc hf ?_
 intro a hf
 refine sv_fld hf rfl Tryz.underlying98 rfl sz_int (1) rfl dd (fun a hf => ?_)
 refine go hf ?_
 intro a hf
 refine sv_add ((g + x.size : Nat) : Int) hf rfl rfl (by rw [wrap_in (by omega)]; rfl) dd (fun a hf => ?_)
 refine go hf ?_
 intro a hf
 refine sv_fld hf rfl Tryz.underlying98 rfl sz_int (1) rfl dd (fun a hf => ?_)
 refine sv_sc (cs' := [.string s, .int .i64 ((g + x.size : Nat) : Int), .bool true]) hf hX rfl rfl 0 rfl dd rfl info_int rfl [(R, [.string s, .int .i64 ((g + x.size : Nat) : Int), .bool true])] rfl (fun W hX hO => ?_)
 clear hO
 refine go hf ?_
 intro a hf
 refine wp_region_ordW 16 15 [(0, 0), (1, 0), (2, 0), (3, 1), (4, 0), (5, 0), (6, 0), (7, 1), (8, 0), (9, 0), (10, 0), (11, 0), (12, 0), (13, 1), (14, 0), (15, 3)] (fun X => Bx ⟨bare w, [(w, fun k => k ≠ R)]⟩ [(R, [.string s, .int .i64 ((g + x.size : Nat) : Int), .bool true])] X) mixed (by kernel_rfl) hX.drew (fun c a d v w h => by cases d <;> exact h) ?_
 replace hX := hX.drew
 refine o0 hf fun a hf => ?_
 refine o0 hf fun a hf => ?_
 refine ov0 (v := .pointer (some ⟨R, 0, none⟩)) hf rfl rfl dd rfl (fun X => ex_vfld (0) hf rfl rfl Tryz.underlying98 rfl sz_str rfl) (fun a hf => ?_)
 refine ov1 (v := .string s) hf rfl rfl dd rfl (fun X hS => ex_vlc (cs := [.string s, .int .i64 ((g + x.size : Nat) : Int), .bool true]) hf rfl rfl (hS.get (i := 0) rfl) rfl u9 rfl) (fun a hf => ?_)
 refine o0 hf fun a hf => ?_
 refine o0 hf fun a hf => ?_
 refine ov0 (v := .pointer (some ⟨R, 1, none⟩)) hf rfl rfl dd rfl (fun X => ex_vfld (1) hf rfl rfl Tryz.underlying98 rfl sz_int rfl) (fun a hf => ?_)
 refine ov1 (v := .int .i64 ((g + x.size : Nat) : Int)) hf rfl rfl dd rfl (fun X hS => ex_vlc (cs := [.string s, .int .i64 ((g + x.size : Nat) : Int), .bool true]) hf rfl rfl (hS.get (i := 0) rfl) rfl u3 rfl) (fun a hf => ?_)
 refine o0 hf fun a hf => ?_
 refine ov0 (v := .int .i64 (g : Int)) hf rfl rfl dd rfl (fun X => ex_sub hf rfl rfl rfl (by have h9 := wrap_in (m := ((g + x.size : Nat) : Int) - (x.size : Int)) (by omega); omega)) (fun a hf => ?_)
 refine o0 hf fun a hf => ?_
 refine o0 hf fun a hf => ?_
 refine ov0 (v := .pointer (some ⟨R, 1, none⟩)) hf rfl rfl dd rfl (fun X => ex_vfld (1) hf rfl rfl Tryz.underlying98 rfl sz_int rfl) (fun a hf => ?_)
 refine ov1 (v := .int .i64 ((g + x.size : Nat) : Int)) hf rfl rfl dd rfl (fun X hS => ex_vlc (cs := [.string s, .int .i64 ((g + x.size : Nat) : Int), .bool true]) hf rfl rfl (hS.get (i := 0) rfl) rfl u3 rfl) (fun a hf => ?_)
 refine ov0 (v := .string x) hf rfl rfl dd rfl (fun X => (ex_sl (m := x.size) hf rfl rfl rfl rfl hps).trans (by rw [hmk])) (fun a hf => ?_)
 refine ov3v (v := .string x) hf rfl rfl dd rfl (ex_vas hf rfl rfl) (fun a hf => ?_)
 refine wpOrd_nil ?_
 refine wp_ret ?_
 try simp only [Exit.inBlock, Exit.then]
 exact rt hf rfl rfl ⟨rfl, by rw [List.length_append, size_list, ← Nat.add_assoc, ← hg0]; exact hX.get (i := 0) rfl, ⟨hX.low.os, hX.low.tape, hX.low.output, (hX.bas _ List.mem_cons_self).1, fun k hk hne => (hX.bas _ List.mem_cons_self).2 k hk (fun e => hne (by rw [e]))⟩⟩
theorem echg_any (R : Nat) (s : ByteArray) (hs : s.size ≤ 1000000000) (p : Nat) (x y z : ByteArray) (hx : x.size ≤ 100000) (hy : y.size ≤ 100000) (hz : z.size ≤ 100000) (post : List UInt8) (hp : s.data.toList.drop p = chB (x, y, z, false) ++ post) (w : World) (hRd : Box w R [.string s, .int .i64 (p : Int), .bool true]) : Calls Tryz.prog 48 #[.pointer (some ⟨R, 0, none⟩)] w fun e w' => e = .returned (.agg [.string x, .string y, .string z, .bool false].toArray) ∧ Box w' R [.string s, .int .i64 ((p + (chB (x, y, z, false)).length : Nat) : Int), .bool true] ∧ w.grownBy w' (some R) := by
 have hp1 : s.data.toList.drop p = (Tr.nb x.size ++ x.data.toList) ++ ((Tr.nb y.size ++ y.data.toList) ++ (0 :: ((Tr.nb z.size ++ z.data.toList) ++ post))) := by
  rw [hp]; simp [chB, strB, nb_nat]
 have hp2 := drop_next hp1
 have hp3 := drop_next hp2
 obtain ⟨hc, hp4⟩ := drop_one hp3
 have hlen : p + (chB (x, y, z, false)).length = p + (Tr.nb x.size ++ x.data.toList).length + (Tr.nb y.size ++ y.data.toList).length + 1 + (Tr.nb z.size ++ z.data.toList).length := by
  simp [chB, strB, nb_nat]; omega
 rw [hlen]
 obtain ⟨p2, h2⟩ : ∃ q, q = p + (Tr.nb x.size ++ x.data.toList).length := ⟨_, rfl⟩
 rw [← h2] at hp2 hp3 hp4 hc ⊢
 obtain ⟨p3, h3⟩ : ∃ q, q = p2 + (Tr.nb y.size ++ y.data.toList).length := ⟨_, rfl⟩
 rw [← h3] at hp3 hp4 hc ⊢
 obtain ⟨p5, h5⟩ : ∃ q, q = p3 + 1 + (Tr.nb z.size ++ z.data.toList).length := ⟨_, rfl⟩
 rw [← h5]
 clear hp hlen
 refine cv1 Tryz.func48 rfl rfl rfl fun a hf => ?_
 have hX := Bx.start w
 clear hX
 have hX0 := Bx.bare w (fun k => k ≠ R)
 have hX := hX0.add hRd (Nat.zero_le _) (fun x h => by cases h) (fun p hp _ => by rw [List.mem_singleton.1 hp]; exact fun h => h rfl)
 clear hX0
 refine gc hf ?_
 intro a hf
 refine sv_alloc (zs := [.string ⟨#[]⟩, .string ⟨#[]⟩, .string ⟨#[]⟩, .bool false]) hf hX zero_chg dd (fun a C1 W hC hf hX hA => ?_)
 clear hC hA
 refine go hf ?_
 intro a hf
 refine sv_call hf fnOK_71 rfl (estr_any R s hs p x (by omega) _ hp1 _ (hX.get (i := 1) rfl)) dd ?_
 rw [← h2]
 rintro e W2 ⟨rfl, hb, hg⟩
 replace hX : Bx ⟨bare w, [(w, fun k => k ≠ R)]⟩ [(C1, [.string ⟨#[]⟩, .string ⟨#[]⟩, .string ⟨#[]⟩, .bool false]), (R, [.string s, .int .i64 (p2 : Int), .bool true])] W2 := hX.turn (i := 1) rfl hg hb
 clear hb hg
 obtain ⟨W, hWW⟩ : ∃ X, X = W2 := ⟨_, rfl⟩
 subst hWW
 refine ⟨_, rfl, fun a hf => ?_⟩
 refine go hf ?_
 intro a hf
 refine sv_call hf fnOK_71 rfl (estr_any R s hs p2 y (by omega) _ hp2 _ (hX.get (i := 1) rfl)) dd ?_
 rw [← h3]
 rintro e W2 ⟨rfl, hb, hg⟩
 replace hX : Bx ⟨bare w, [(w, fun k => k ≠ R)]⟩ [(C1, [.string ⟨#[]⟩, .string ⟨#[]⟩, .string ⟨#[]⟩, .bool false]), (R, [.string s, .int .i64 (p3 : Int), .bool true])] W2 := hX.turn (i := 1) rfl hg hb
 clear hb hg
 obtain ⟨W, hWW⟩ : ∃ X, X = W2 := ⟨_, rfl⟩
 subst hWW
 refine ⟨_, rfl, fun a hf => ?_⟩
 refine sv_build (cs := [.string x, .string y, .string ⟨#[]⟩, .bool false]) hf rfl (by kernel_rfl) dd (fun a hf => ?_)
 refine sv_alloc (zs := [.string ⟨#[]⟩, .string ⟨#[]⟩, .string ⟨#[]⟩, .bool false]) hf hX zero_chg dd (fun a C2 W hC hf hX hA => ?_)
 clear hC hA
 refine sv_sr hf hX rfl rfl 0 rfl rfl info_chg (ones_of rfl) [(C2, [.string x, .string y, .string ⟨#[]⟩, .bool false]), (C1, [.string ⟨#[]⟩, .string ⟨#[]⟩, .string ⟨#[]⟩, .bool false]), (R, [.string s, .int .i64 (p3 : Int), .bool true])] rfl (fun W hX hO => ?_)
 clear hO
 refine go hf ?_
 intro a hf
 refine sv_call hf fnOK_46 rfl (ebyte_any R s hs p3 0 hc _ (hX.get (i := 2) rfl)) dd ?_
 rw [show (((0 : UInt8).toNat : Nat) : Int) = 0 from rfl]
 rintro e W2 ⟨rfl, hb, hg⟩
 replace hX : Bx ⟨bare w, [(w, fun k => k ≠ R)]⟩ [(C2, [.string x, .string y, .string ⟨#[]⟩, .bool false]), (C1, [.string ⟨#[]⟩, .string ⟨#[]⟩, .string ⟨#[]⟩, .bool false]), (R, [.string s, .int .i64 ((p3 + 1 : Nat) : Int), .bool true])] W2 := hX.turn (i := 2) rfl hg hb
 clear hb hg
 obtain ⟨W, hWW⟩ : ∃ X, X = W2 := ⟨_, rfl⟩
 subst hWW
 refine ⟨_, rfl, fun a hf => ?_⟩
 refine go hf ?_
 intro a hf
 refine wp_block ?_
 refine gc hf ?_
 intro a hf
 refine sv_call hf fnOK_71 rfl (estr_any R s hs (p3 + 1) z (by omega) _ hp4 _ (hX.get (i := 2) rfl)) dd ?_
 rw [← h5]
 rintro e W2 ⟨rfl, hb, hg⟩
 replace hX : Bx ⟨bare w, [(w, fun k => k ≠ R)]⟩ [(C2, [.string x, .string y, .string ⟨#[]⟩, .bool false]), (C1, [.string ⟨#[]⟩, .string ⟨#[]⟩, .string ⟨#[]⟩, .bool false]), (R, [.string s, .int .i64 (p5 : Int), .bool true])] W2 := hX.turn (i := 2) rfl hg hb
 clear hb hg
 obtain ⟨W, hWW⟩ : ∃ X, X = W2 := ⟨_, rfl⟩
 subst hWW
 refine ⟨_, rfl, fun a hf => ?_⟩
 refine sv_fld hf rfl Tryz.underlying39 rfl sz_str (2) rfl dd (fun a hf => ?_)
 refine sv_sc (cs' := [.string x, .string y, .string z, .bool false]) hf hX rfl rfl 0 rfl dd rfl info_str rfl [(C2, [.string x, .string y, .string z, .bool false]), (C1, [.string ⟨#[]⟩, .string ⟨#[]⟩, .string ⟨#[]⟩, .bool false]), (R, [.string s, .int .i64 (p5 : Int), .bool true])] rfl (fun W hX hO => ?_)
 clear hO
 refine go hf ?_
 intro a hf
 refine sv_lr hf hX rfl 0 rfl Tryz.underlying39 info_chg dd (fun a hf => ?_)
 refine sv_sr hf hX rfl rfl 1 rfl rfl info_chg (ones_of rfl) [(C2, [.string x, .string y, .string z, .bool false]), (C1, [.string x, .string y, .string z, .bool false]), (R, [.string s, .int .i64 (p5 : Int), .bool true])] rfl (fun W hX hO => ?_)
 clear hO
 refine go hf ?_
 intro a hf
 exact bodyPost_ret (res_cellV (c := 2) (C := C1) (cs := [.string x, .string y, .string z, .bool false]) (T := 39) rfl (hf.rel 2 _ rfl) (hX.get (i := 1) rfl) Tryz.underlying39 info_chg) hf.defers ⟨rfl, hX.get (i := 2) rfl, ⟨hX.low.os, hX.low.tape, hX.low.output, (hX.bas _ List.mem_cons_self).1, fun k hk hne => (hX.bas _ List.mem_cons_self).2 k hk (fun e => hne (by rw [e]))⟩⟩
def EC (_ : World) (_ : Nat → Prop) (x : Chg) (cs : List Value) : Prop := cs = [.string x.1, .string x.2.1, .string x.2.2.1, .bool x.2.2.2]
theorem ekC : EK EC := fun _ _ _ _ _ _ h _ _ _ => h
theorem zB_chg : zeroB Tryz.prog 39 4 = true := by kernel_rfl
theorem einfo3_chg : (Tryz.prog.info? 39).map (fun i => (i.zero, i.size, i.bytes)) = some (some (.agg (List.toArray [.string ⟨#[]⟩, .string ⟨#[]⟩, .string ⟨#[]⟩, .bool false])), 4, 56) := by kernel_rfl
theorem flat_at {α : Type} {k : Nat} : ∀ (css : List (List α)) (j : Nat) (cs : List α) (i : Nat) (v : α), (∀ c ∈ css, c.length = k) → css[j]? = some cs → cs[i]? = some v → css.flatten[j * k + i]? = some v
 | [], _, _, _, _, _, h, _ => by simp at h
 | c :: css, 0, cs, i, v, hk, h, hi => by
  obtain rfl := Option.some.inj h
  rw [List.flatten_cons, Nat.zero_mul, Nat.zero_add, List.getElem?_append_left (List.getElem?_eq_some_iff.1 hi).1]
  exact hi
 | c :: css, j + 1, cs, i, v, hk, h, hi => by
  have hc := hk c List.mem_cons_self
  rw [List.flatten_cons, List.getElem?_append_right (by rw [hc, Nat.succ_mul]; omega), hc, show (j + 1) * k + i - k = j * k + i by rw [Nat.succ_mul]; omega]
  exact flat_at css j cs i v (fun c hc => hk c (List.mem_cons_of_mem _ hc)) h hi
theorem RowE.chs {W : World} {v : Value} {es : List Chg} {B : Nat} {N : Nat → Prop} (h : RowE EC 39 4 B N W v es) : ChAt W v es := by
 obtain ⟨css, F, hlen, hE, hown, _⟩ := h.ex
 rcases hown.2 with ⟨h1, h2⟩ | ⟨g, cap, cur, e1, e2, e3, e4, e5, e6, e7⟩
 ·exact .inl ⟨h1, List.eq_nil_of_length_eq_zero h2⟩
 ·have hg := (h.own g (by rw [e1]; rfl)).2.1
  refine .inr ⟨g, cap, e1, ?_, ?_, hg, fun j hj => ?_⟩
  ·exact e4
  ·unfold maxLen at e5; omega
  ·have hr := own_at (by rw [← e1]; exact hown)
   obtain ⟨cs, hcs⟩ : ∃ cs, css[j]? = some cs := ⟨_, List.getElem?_eq_getElem (by omega)⟩
   have hh := hE j _ cs (List.getElem?_eq_getElem hj) hcs
   have hall : ∀ c ∈ css, c.length = 4 := fun c hc => by
    obtain ⟨i, hi, rfl⟩ := List.mem_iff_getElem.1 hc
    exact (hE i _ _ (List.getElem?_eq_getElem (by omega)) (List.getElem?_eq_getElem hi)).2
   have hc1 := hh.1
   unfold EC at hc1
   subst hc1
   have key : ∀ i u, [Value.string es[j].1, .string es[j].2.1, .string es[j].2.2.1, .bool es[j].2.2.2][i]? = some u → W.cell? ⟨g, j * 4 + i, none⟩ = some u := fun i u hu => by
    have := hr (j * 4 + i) u (flat_at css j _ i u hall hcs hu)
    rwa [Nat.zero_add] at this
   exact ⟨key 0 _ rfl, key 1 _ rfl, key 2 _ rfl, key 3 _ rfl⟩
theorem Bx.take {b : Base} {W : World} {l : List (Nat × List Value)} (n : Nat) (h : Bx b l W) : Bx b (l.take n) W :=
 ⟨fun x hx => h.box x (List.mem_of_mem_take hx), h.low, fun x hx => h.ge x (List.mem_of_mem_take hx), fun i j x y hi hj he => h.nd i j x y (by rw [List.getElem?_take] at hi; split at hi; exact hi; cases hi) (by rw [List.getElem?_take] at hj; split at hj; exact hj; cases hj) he, h.bas, fun p hp x hx => h.bge p hp x (List.mem_of_mem_take hx)⟩
theorem parse_any (st : Nat) (x y z : ByteArray) (hst : st < 4611686018427387904) (hx : x.size ≤ 20000) (hy : y.size ≤ 20000) (hz : z.size ≤ 20000) (w : World) : Calls Tryz.prog 24 #[.string (mkS (recB 1 st [(x, y, z, false)]))] w fun e w' => ∃ v, e = .returned (.tuple #[.agg #[.int .i64 1, .int .i64 (st : Int), v], .bool true]) ∧ ChAt w' v [(x, y, z, false)] ∧ (∀ k, v.ownBlock = some k → w.heap.size ≤ k) ∧ Below w.heap.size w w' := by
 obtain ⟨S, hS0⟩ : ∃ S, S = mkS (recB 1 st [(x, y, z, false)]) := ⟨_, rfl⟩
 have hSL : S.data.toList = 1 :: (Tr.nb st ++ (Tr.nb 1 ++ chB (x, y, z, false))) := by
  rw [hS0, mkS_list]
  simp [recB, chsB, nb_nat]
 rw [← hS0]
 obtain ⟨L, hL0⟩ : ∃ L, L = (chB (x, y, z, false)).length := ⟨_, rfl⟩
 have hsz : S.size = 1 + (Tr.nb st).length + (Tr.nb 1).length + L := by
  rw [← size_list, hSL, hL0]
  simp only [List.length_cons, List.length_append]
  omega
 have hs9 : S.size ≤ 1000000000 := by
  have h4 := chB_len (x, y, z, false) ⟨hx, hy, hz⟩
  rw [← hL0] at h4
  have h5 := numB_len st hst
  rw [nb_nat] at h5
  have h6 : (Tr.nb 1).length ≤ 9 := by rw [← show numB 1 = Tr.nb 1 from nb_nat 1]; exact numB_len 1 (by decide)
  omega
 have hd0 : S.data.toList[0]? = some 1 := by rw [hSL]; rfl
 have hd1 : S.data.toList.drop 1 = Tr.nb st ++ (Tr.nb 1 ++ chB (x, y, z, false)) := by rw [hSL]; rfl
 have hd2 := drop_next hd1
 have hd3 := drop_next hd2
 obtain ⟨p2, h2⟩ : ∃ q, q = 1 + (Tr.nb st).length := ⟨_, rfl⟩
 rw [← h2] at hd2 hd3 hsz
 obtain ⟨p3, h3⟩ : ∃ q, q = p2 + (Tr.nb 1).length := ⟨_, rfl⟩
 rw [← h3] at hd3 hsz
 clear hS0 hSL
 refine cv1 Tryz.func24 rfl rfl rfl fun a hf => ?_
 have hX := Bx.start w
 refine gc hf ?_
 intro a hf
 refine sv_alloc (zs := [.int .i64 0, .int .i64 0, .slice none 0 0]) hf hX zero_erec dd (fun a C1 W hC hf hX hA => ?_)
 clear hC hA
 refine go hf ?_
 intro a hf
 refine sv_build (cs := [.string S, .int .i64 0, .bool true]) hf rfl (by kernel_rfl) dd (fun a hf => ?_)
 refine sv_box hf hX rfl dd (fun a C2 W hC hf hX hA => ?_)
 clear hC hA
 refine go hf ?_
 intro a hf
 refine sv_call hf fnOK_46 rfl (ebyte_any C2 S hs9 0 1 hd0 _ (hX.get (i := 0) rfl)) dd ?_
 rw [show (((1 : UInt8).toNat : Nat) : Int) = 1 from rfl, Nat.zero_add]
 rintro e W2 ⟨rfl, hb, hg⟩
 replace hX : Bx ⟨w, []⟩ [(C2, [.string S, .int .i64 ((1 : Nat) : Int), .bool true]), (C1, [.int .i64 0, .int .i64 0, .slice none 0 0])] W2 := hX.turn (i := 0) rfl hg hb
 clear hb hg
 obtain ⟨W, hWW⟩ : ∃ X, X = W2 := ⟨_, rfl⟩
 subst hWW
 refine ⟨_, rfl, fun a hf => ?_⟩
 refine sv_build (cs := [.int .i64 1, .int .i64 0, .slice none 0 0]) hf rfl (by kernel_rfl) dd (fun a hf => ?_)
 refine sv_alloc (zs := [.int .i64 0, .int .i64 0, .slice none 0 0]) hf hX zero_erec dd (fun a C3 W hC hf hX hA => ?_)
 clear hC hA
 refine sv_sr hf hX rfl rfl 0 rfl rfl info_erec (ones_of rfl) [(C3, [.int .i64 1, .int .i64 0, .slice none 0 0]), (C2, [.string S, .int .i64 ((1 : Nat) : Int), .bool true]), (C1, [.int .i64 0, .int .i64 0, .slice none 0 0])] rfl (fun W hX hO => ?_)
 clear hO
 refine go hf ?_
 intro a hf
 refine sv_fld hf rfl Tryz.underlying58 rfl sz_int (0) rfl dd (fun a hf => ?_)
 refine go hf ?_
 intro a hf
 refine sv_fld hf rfl Tryz.underlying58 rfl sz_int (0) rfl dd (fun a hf => ?_)
 refine go hf ?_
 intro a hf
 refine sv_call hf fnOK_47 rfl (enum_any C2 S hs9 1 (st : Int) (wf_nat (by omega)) _ hd1 _ (hX.get (i := 1) rfl)) dd ?_
 rw [← h2]
 rintro e W2 ⟨rfl, hb, hg⟩
 replace hX : Bx ⟨w, []⟩ [(C3, [.int .i64 1, .int .i64 0, .slice none 0 0]), (C2, [.string S, .int .i64 (p2 : Int), .bool true]), (C1, [.int .i64 0, .int .i64 0, .slice none 0 0])] W2 := hX.turn (i := 1) rfl hg hb
 clear hb hg
 obtain ⟨W, hWW⟩ : ∃ X, X = W2 := ⟨_, rfl⟩
 subst hWW
 refine ⟨_, rfl, fun a hf => ?_⟩
 refine sv_fld hf rfl Tryz.underlying58 rfl sz_int (1) rfl dd (fun a hf => ?_)
 refine sv_sc (cs' := [.int .i64 1, .int .i64 (st : Int), .slice none 0 0]) hf hX rfl rfl 0 rfl dd rfl info_int rfl [(C3, [.int .i64 1, .int .i64 (st : Int), .slice none 0 0]), (C2, [.string S, .int .i64 (p2 : Int), .bool true]), (C1, [.int .i64 0, .int .i64 0, .slice none 0 0])] rfl (fun W hX hO => ?_)
 clear hO
 refine go hf ?_
 intro a hf
 refine sv_fld hf rfl Tryz.underlying58 rfl sz_int (0) rfl dd (fun a hf => ?_)
 refine go hf ?_
 intro a hf
 refine sv_call hf fnOK_47 rfl (enum_any C2 S hs9 p2 1 dd _ hd2 _ (hX.get (i := 1) rfl)) dd ?_
 rw [← h3]
 rintro e W2 ⟨rfl, hb, hg⟩
 replace hX : Bx ⟨w, []⟩ [(C3, [.int .i64 1, .int .i64 (st : Int), .slice none 0 0]), (C2, [.string S, .int .i64 (p3 : Int), .bool true]), (C1, [.int .i64 0, .int .i64 0, .slice none 0 0])] W2 := hX.turn (i := 1) rfl hg hb
 clear hb hg
 obtain ⟨W, hWW⟩ : ∃ X, X = W2 := ⟨_, rfl⟩
 subst hWW
 refine ⟨_, rfl, fun a hf => ?_⟩
 refine go hf ?_
 intro a hf
 refine sv_fld hf rfl Tryz.underlying58 rfl sz_int (0) rfl dd (fun a hf => ?_)
 refine go hf ?_
 intro a hf
 replace hX : Bx ⟨w, []⟩ [(C3, [.int .i64 1, .int .i64 (st : Int), .slice none 0 0]), (C2, [.string S, .int .i64 ((p3 + 0 * L : Nat) : Int), .bool true]), (C1, [.int .i64 0, .int .i64 0, .slice none 0 0])] W := by rw [Nat.zero_mul]; exact hX
 refine wp_block (wp_loop (fun a X => ∃ (q : Nat) (vx : Value), FrV 76 [(0, .string S), (2, .pointer (some ⟨C1, 0, none⟩)), (3, .bool false), (4, .pointer (some ⟨C2, 0, none⟩)), (5, .pointer (some ⟨C3, 0, none⟩)), (51, .int .i64 1), (52, .int .i64 (q : Int))] a ∧ Bx ⟨w, []⟩ [(C3, [.int .i64 1, .int .i64 (st : Int), vx]), (C2, [.string S, .int .i64 ((p3 + q * L : Nat) : Int), .bool true]), (C1, [.int .i64 0, .int .i64 0, .slice none 0 0])] X ∧ q ≤ 1 ∧ RowE EC 39 4 w.heap.size (fun x => x = C3 ∨ x = C2 ∨ x = C1) X vx (List.replicate q (x, y, z, false))) (fun a _ => 1 - (intOf (a.eval (.tmp 52))).toNat) ⟨0, _, hf.sub (sub_cons rfl (sub_cons rfl (sub_cons rfl (sub_cons rfl (sub_cons rfl (sub_cons rfl (sub_cons rfl (sub_nil)))))))), hX, Nat.zero_le _, RowE.nil W⟩ ?_)
 clear hf hX
 rintro a W ⟨q, vx, hf, hX, hq, hL⟩
 have hm52 : a.eval (.tmp 52) = .int .i64 (q : Int) := hf.rel 52 _ rfl
 rcases Decidable.em ((q : Int) < 1) with hgo | hgo
 ·
  refine gc hf ?_
  intro a hf
  refine ct hf hgo fun a hf => ?_
  refine go hf ?_
  intro a hf
  refine wp_block ?_
  have hq0 : q = 0 := by omega
  refine wp_region_ordW 8 7 [(0, 0), (1, 1), (2, 0), (3, 2), (4, 2), (5, 2), (6, 0), (7, 3)] (fun X => Bx ⟨w, []⟩ [(C3, [.int .i64 1, .int .i64 (st : Int), vx])] X) mixed (by kernel_rfl) (hX.drew.take 1) (fun c a d v w h => by cases d <;> exact h) ?_
  replace hX := hX.drew
  replace hL := hL.below ekC (Below.refl _ _).drew
  refine ov0 (v := .pointer (some ⟨C3, 2, none⟩)) hf rfl rfl dd rfl (fun X => ex_vfld (2) hf rfl rfl Tryz.underlying58 rfl sz_chgs rfl) (fun a hf => ?_)
  refine ov1 (v := vx) hf rfl rfl dd rfl (fun X hS => ex_vlc (cs := [.int .i64 1, .int .i64 (st : Int), vx]) hf rfl rfl (hS.get (i := 0) rfl) rfl Tryz.underlying40 rfl) (fun a hf => ?_)
  refine o0 hf fun a hf => ?_
  refine ov2c hf rfl rfl dd rfl rfl fnOK_48 rfl (echg_any C2 S hs9 (p3 + q * L) x y z (by omega) (by omega) (by omega) [] (by rw [hq0, Nat.zero_mul, Nat.add_zero, List.append_nil]; exact hd3) _ (hX.get (i := 1) rfl)) ?_
  rw [← hL0]
  rintro e W2 ⟨rfl, hb, hg⟩
  replace hL := hL.keep ekC hg.size (fun x _ hl hn => hg.block x hl (fun e => hn (by rw [← Option.some.inj e]; exact Or.inr (Or.inl rfl))))
  replace hX : Bx ⟨w, []⟩ [(C3, [.int .i64 1, .int .i64 (st : Int), vx]), (C2, [.string S, .int .i64 ((p3 + q * L + L : Nat) : Int), .bool true]), (C1, [.int .i64 0, .int .i64 0, .slice none 0 0])] W2 := hX.turn (i := 1) rfl hg hb
  clear hb hg
  obtain ⟨W, hWW⟩ : ∃ X, X = W2 := ⟨_, rfl⟩
  subst hWW
  refine ⟨_, rfl, hX.take 1, fun a hf => ?_⟩
  refine ov2_bsE (cs := [.string x, .string y, .string z, .bool false]) hf hX rfl rfl dd rfl rfl rfl Tryz.underlying40 zB_chg info_chg rfl dd dd (fun _ h => h.take 1) (fun a G4 W hC hf hX hA => ?_)
  replace hL := hL.below ekC hA
  clear hC hA
  replace hX : Bx ⟨w, []⟩ [(G4, [.string x, .string y, .string z, .bool false]), (C3, [.int .i64 1, .int .i64 (st : Int), vx]), (C2, [.string S, .int .i64 ((p3 + q * L + L : Nat) : Int), .bool true]), (C1, [.int .i64 0, .int .i64 0, .slice none 0 0])] W := hX
  have hlC3 := (hX.get (i := 1) rfl).lt
  have hlC2 := (hX.get (i := 2) rfl).lt
  have hlC1 := (hX.get (i := 3) rfl).lt
  refine ov2_appE (pe := (x, y, z, false)) (G := fun _ => False) ekC hf hX rfl rfl dd rfl rfl rfl rfl Tryz.underlying40 einfo3_chg rfl dd rfl (ones_of rfl) (by rw [List.length_replicate]; omega) dd hL hX.low.size rfl (fun x h => h.elim) (by intro x hx; rcases hx with rfl | rfl | rfl; exact hlC3; exact hlC2; exact hlC1) (by intro x hx; simp only [List.mem_cons, List.not_mem_nil, or_false] at hx; rcases hx with rfl | rfl | rfl; exact Or.inl rfl; exact Or.inr (Or.inl rfl); exact Or.inr (Or.inr rfl)) (Nat.le_refl _) (fun p hp => by cases hp) (fun _ h => h.take 1) (fun a v5 W hf hX hL2 hg => ?_)
  replace hL := hL2
  clear hL2 hg
  obtain ⟨a_v5, c_v5, e_v5⟩ := hL.sl
  subst e_v5
  refine ov0 (v := .pointer (some ⟨C3, 2, none⟩)) hf rfl rfl dd rfl (fun X => ex_vfld (2) hf rfl rfl Tryz.underlying58 rfl sz_chgs rfl) (fun a hf => ?_)
  have hbS := hX.get (i := 0) (C := C3) (cs := [.int .i64 1, .int .i64 (st : Int), vx]) rfl
  refine ov3 rfl rfl rfl (ex_store_cell _ _ _ C3 2 (.slice a_v5 ((List.replicate q (x, y, z, false) ++ [(x, y, z, false)]).length) c_v5) rfl (hf.ev rfl) (hf.ev rfl) (hbS.there 2 1 dd) info_chgs rfl) ?_
  replace hX := hX.set (i := 0) rfl (hbS.setCell 2 (.slice a_v5 ((List.replicate q (x, y, z, false) ++ [(x, y, z, false)]).length) c_v5) (of_decide_eq_true rfl)) (Only.setCell _ C3 2 _)
  replace hL := hL.only ekC (Only.setCell W C3 2 (.slice a_v5 ((List.replicate q (x, y, z, false) ++ [(x, y, z, false)]).length) c_v5)) (Or.inl rfl)
  replace hL : RowE _ _ _ _ _ (World.setCells W C3 2 [.slice a_v5 ((List.replicate q (x, y, z, false) ++ [(x, y, z, false)]).length) c_v5]) _ _ := hL
  clear hbS
  refine wpOrd_nil ?_
  refine gc hf ?_
  intro a hf
  refine sv_add ((q + 1 : Nat) : Int) hf rfl rfl (by rw [wrap_in (by omega)]; rfl) dd (fun a hf => ?_)
  refine go hf ?_
  intro a hf
  have hes : List.replicate q (x, y, z, false) ++ [(x, y, z, false)] = List.replicate (q + 1) (x, y, z, false) := by rw [hq0]; rfl
  rw [show p3 + q * L + L = p3 + (q + 1) * L from by rw [Nat.succ_mul, Nat.add_assoc]] at hX
  refine ⟨⟨q + 1, _, hf.sub (sub_cons rfl (sub_cons rfl (sub_cons rfl (sub_cons rfl (sub_cons rfl (sub_cons rfl (sub_cons rfl (sub_nil)))))))), hX, by omega, by rw [← hes]; exact hL⟩, ?_⟩
  have h5 : a.eval (.tmp 52) = .int .i64 ((q + 1 : Nat) : Int) := hf.rel 52 _ rfl
  rw [h5, hm52]; simp only [intOf, Int.toNat_natCast]; omega
 ·
  refine gc hf ?_
  intro a hf
  refine cf hf hgo fun a hf => ?_
  refine go hf ?_
  intro a hf
  refine wp_exit ?_
  simp only [Exit.inBlock, Exit.then, ↓reduceIte]
  obtain rfl : q = 1 := by omega
  rw [Nat.one_mul] at hX
  obtain ⟨a_v, c_v, e_v⟩ := hL.sl
  subst e_v
  refine gc hf ?_
  intro a hf
  refine wp_region_ordW 16 15 [(0, 1), (1, 0), (2, 0), (3, 0), (4, 1), (5, 0), (6, 0), (7, 0), (8, 0), (9, 1), (10, 0), (11, 0), (12, 0), (13, 0), (14, 2), (15, 3)] (fun X => Bx ⟨w, []⟩ [(C3, [.int .i64 1, .int .i64 (st : Int), .slice a_v ((List.replicate 1 (x, y, z, false)).length) c_v]), (C2, [.string S, .int .i64 ((p3 + L : Nat) : Int), .bool true])] X) mixed (by kernel_rfl) (hX.drew.take 2) (fun c a d v w h => by cases d <;> exact h) ?_
  replace hX := hX.drew
  replace hL := hL.below ekC (Below.refl _ _).drew
  refine ov1 (v := .agg #[.int .i64 1, .int .i64 (st : Int), .slice a_v ((List.replicate 1 (x, y, z, false)).length) c_v]) hf rfl rfl dd rfl (fun X hS => ex_vlr (cs := [.int .i64 1, .int .i64 (st : Int), .slice a_v ((List.replicate 1 (x, y, z, false)).length) c_v]) hf rfl rfl (hS.get (i := 0) rfl) Tryz.underlying58 info_erec) (fun a hf => ?_)
  refine o0 hf fun a hf => ?_
  refine o0 hf fun a hf => ?_
  refine ov0 (v := .pointer (some ⟨C2, 2, none⟩)) hf rfl rfl dd rfl (fun X => ex_vfld (2) hf rfl rfl Tryz.underlying98 rfl sz_bool rfl) (fun a hf => ?_)
  refine ov1 (v := .bool true) hf rfl rfl dd rfl (fun X hS => ex_vlc (cs := [.string S, .int .i64 ((p3 + L : Nat) : Int), .bool true]) hf rfl rfl (hS.get (i := 1) rfl) rfl u4 rfl) (fun a hf => ?_)
  refine o0 hf fun a hf => ?_
  refine ov0 (v := .pointer (some ⟨C2, 0, none⟩)) hf rfl rfl dd (wanted_known hf rfl rfl rfl) (fun X => ex_vmv hf rfl rfl) (fun a hf => ?_)
  refine ov0 (v := .pointer (some ⟨C2, 0, none⟩)) hf rfl rfl dd (wanted_known hf rfl rfl rfl) (fun X => ex_nilc hf rfl rfl) (fun a hf => ?_)
  refine ov0 (v := .pointer (some ⟨C2, 1, none⟩)) hf rfl rfl dd (wanted_known hf rfl rfl rfl) (fun X => ex_vfld (1) hf rfl rfl Tryz.underlying98 rfl sz_int rfl) (fun a hf => ?_)
  refine ov1 (v := .int .i64 ((p3 + L : Nat) : Int)) hf rfl rfl dd (wanted_known hf rfl rfl rfl) (fun X hS => ex_vlc (cs := [.string S, .int .i64 ((p3 + L : Nat) : Int), .bool true]) hf rfl rfl (hS.get (i := 1) rfl) rfl u3 rfl) (fun a hf => ?_)
  refine ov0 (v := .string S) hf rfl rfl dd (wanted_known hf rfl rfl rfl) (fun X => ex_vmv hf rfl rfl) (fun a hf => ?_)
  refine ov0 (v := .int .i64 ((S).size : Int)) hf rfl rfl dd (wanted_known hf rfl rfl rfl) (fun X => ex_lens hf rfl rfl u9) (fun a hf => ?_)
  refine ov0 hf rfl rfl dd (wanted_known hf rfl rfl rfl) (fun X => ex_cmp (b := true) hf rfl rfl rfl (congrArg some (decide_eq_true (by rw [hsz])))) (fun a hf => ?_)
  refine o0 hf fun a hf => ?_
  have hbS := hX.get (i := 2) (C := C1) (cs := [.int .i64 0, .int .i64 0, .slice none 0 0]) rfl
  have hO := Only.setCells _ C1 0 [.int .i64 1, .int .i64 (st : Int), .slice a_v ((List.replicate 1 (x, y, z, false)).length) c_v] hbS.lt
  have hX2 : Bx ⟨w, []⟩ [(C3, [.int .i64 1, .int .i64 (st : Int), .slice a_v ((List.replicate 1 (x, y, z, false)).length) c_v]), (C2, [.string S, .int .i64 ((p3 + L : Nat) : Int), .bool true]), (C1, [.int .i64 1, .int .i64 (st : Int), .slice a_v ((List.replicate 1 (x, y, z, false)).length) c_v])] _ := hX.set (i := 2) rfl (hbS.store rfl) hO
  refine ov2st rfl rfl rfl (ex_store_row 58 _ _ C1 0 [.int .i64 1, .int .i64 (st : Int), .slice a_v ((List.replicate 1 (x, y, z, false)).length) c_v] rfl (hf.ev rfl) (hf.ev rfl) (hbS.there 0 3 dd) info_erec (ones_of rfl)) (hX2.take 2) ?_
  replace hL := hL.only ekC hO (Or.inr (Or.inr rfl))
  replace hX := hX2
  clear hX2 hO hbS
  refine ov3v (v := .bool true) hf rfl rfl dd rfl (ex_vas hf rfl rfl) (fun a hf => ?_)
  refine wpOrd_nil ?_
  refine wp_ret ?_
  try simp only [Exit.inBlock, Exit.then]
  exact bodyPost_ret (res_cell_tmp (c := 2) (d := 3) (C := C1) (cs := [.int .i64 1, .int .i64 (st : Int), .slice a_v ((List.replicate 1 (x, y, z, false)).length) c_v]) (T := 58) (v := .bool true) rfl (hf.rel 2 _ rfl) (hf.rel 3 _ rfl) (hX.get (i := 2) rfl) Tryz.underlying58 info_erec) hf.defers ⟨_, rfl, hL.chs, fun k hk => (hL.own k hk).1, hX.low⟩
inductive OrdF where
 | nil
 | one (i k : Nat) (r : OrdF)
 | fork (m e : Nat) (r s : OrdF)
 | frk3 (m e : Nat) (r s : OrdF)
def OrdF.size : OrdF → Nat
 | .nil => 0
 | .one _ _ r => r.size + 1
 | .fork _ _ r _ => r.size + 1
 | .frk3 _ _ r _ => r.size + 1
section
variable {P : Program} {ops : Array Oper} {md : Region.Mode} {Q : Exit → Act → World → Prop} {S : World → Prop}
def wpFork (P : Program) (ops : Array Oper) (Q : Exit → Act → World → Prop) (S : World → Prop) (c : Nat) (R : Act → World → Prop) : OrdF → Act → World → Prop
 | .nil, a, w => R a w
 | .one i 0 rest, a, w => ∃ oi v, ops[i]? = some oi ∧ YieldsIf P ops (KindS S 0) oi v a ∧ wpFork P ops Q S c R rest (a.put oi.dst v) w
 | .one i 1 rest, a, w => ∃ oi v, ops[i]? = some oi ∧ YieldsIf P ops (KindS S 1) oi v a ∧ wpFork P ops Q S c R rest (a.put oi.dst v) w
 | .one i 2 rest, a, w => wpOp P ops Q i (fun a' w' => S w' ∧ wpFork P ops Q S c R rest a' w') a w
 | .one i _ rest, a, w => wpOp P ops Q i (fun a' w' => wpFork P ops Q S c R rest a' w') a w
 | .fork m e r s, a, w => wpOp P ops Q m (fun a' w' => S w' ∧ wpFork P ops Q S c R r a' w') a w ∧ wpOp P ops Q e (fun a' w' => S w' ∧ wpFork P ops Q S c R s a' w') a w
 | .frk3 m e r s, a, w => wpOp P ops Q m (fun a' w' => wpFork P ops Q S c R r a' w') a w ∧ wpOp P ops Q e (fun a' w' => wpFork P ops Q S c R s a' w') a w
def Region.forkB (md : Region.Mode) (ops : Array Oper) (n c g : Nat) : OrdF → Array Bool → Bool
 | .nil, listed => Region.seqB md ops g n listed
 | .one i 0 rest, listed => (Region.ready md ops listed).contains i && Region.free md ops listed i && decide (i < n) && decide (i ≠ c) && Region.forkB md ops n c g rest (listed.setIfInBounds i true)
 | .one i 1 rest, listed => (Region.ready md ops listed).contains i && Region.free md ops listed i && decide (i < n) && decide (i ≠ c) && Region.anc md ops c 6 i && Region.forkB md ops n c g rest (listed.setIfInBounds i true)
 | .one i 2 rest, listed => decide (Region.ready md ops listed = [i]) && decide (i < n) && Region.forkB md ops n c g rest (listed.setIfInBounds i true)
 | .one i _ rest, listed => decide (Region.ready md ops listed = [i]) && decide (i < n) && (listed.setIfInBounds i true).getD c false && Region.forkB md ops n c g rest (listed.setIfInBounds i true)
 | .fork m e r s, listed => (decide (Region.ready md ops listed = [e, m]) || decide (Region.ready md ops listed = [m, e])) && decide (m < n) && decide (e < n) && decide (r.size = s.size) && Region.forkB md ops n c g r (listed.setIfInBounds m true) && Region.forkB md ops n c g s (listed.setIfInBounds e true)
 | .frk3 m e r s, listed => (decide (Region.ready md ops listed = [e, m]) || decide (Region.ready md ops listed = [m, e])) && decide (m < n) && decide (e < n) && decide (r.size = s.size) && listed.getD c false && Region.forkB md ops n c g r (listed.setIfInBounds m true) && Region.forkB md ops n c g s (listed.setIfInBounds e true)
theorem wpAnyT_fork {n c g : Nat} {R : Act → World → Prop} (hsel : Region.noSelect ops = true) (hQ : ∀ c (a : Act) (d : Option Tmp) (v : Value) w, Q (.panic c) (a.put d v) w → Q (.panic c) a w)
  (hn : n = ops.size) :
  ∀ (l : OrdF) (listed : Array Bool) (a : Act) (w : World), HeadInv md ops n listed → Before c S listed w →
  Region.forkB md ops n c g l listed = true → wpFork P ops Q S c R l a w →
  wpAnyT P md ops Q S n c (fun listed' a' w' => Region.seqB md ops g n listed' = true ∧ R a' w') l.size listed a w
 | .nil, listed, a, w, inv, hS, hB, h => ⟨hB, h⟩
 | .one i 0 l, listed, a, w, inv, hS, hB, h => by
  simp only [Region.forkB, Bool.and_eq_true, decide_eq_true_eq] at hB
  obtain ⟨⟨⟨⟨hr, hf⟩, hin⟩, hic⟩, hB'⟩ := hB
  have hr' : i ∈ Region.ready md ops listed := by simpa using hr
  obtain ⟨oi, v, h0, hy, hK⟩ := h
  exact wpAnyT_firstW h0 (Region.noSelect_spec hsel) hQ hn hin hic (fun _ _ _ _ _ => trivial) (fun listed' a' w' hL => seqB_ready hL.1) l.size listed a w inv (Region.free_spec h0 hf) hr' hy hS
   (wpAnyT_fork hsel hQ hn l _ _ _ (inv.set hr' hin) (fun h => hS (set_other h)) hB' hK)
 | .one i 1 l, listed, a, w, inv, hS, hB, h => by
  simp only [Region.forkB, Bool.and_eq_true, decide_eq_true_eq] at hB
  obtain ⟨⟨⟨⟨⟨hr, hf⟩, hin⟩, hic⟩, hanc⟩, hB'⟩ := hB
  have hr' : i ∈ Region.ready md ops listed := by simpa using hr
  obtain ⟨oi, v, h0, hy, hK⟩ := h
  exact wpAnyT_firstW h0 (Region.noSelect_spec hsel) hQ hn hin hic (fun listed w inv hun hb => hb (by
    cases hl : listed.getD c false with
    | false => rfl
    | true => have := anc_listed inv 6 i hanc hl; rw [getD_both hun] at this; cases this)) (fun listed' a' w' hL => seqB_ready hL.1) l.size listed a w inv (Region.free_spec h0 hf) hr' hy hS
   (wpAnyT_fork hsel hQ hn l _ _ _ (inv.set hr' hin) (fun h => hS (set_other h)) hB' hK)
 | .one i 2 l, listed, a, w, inv, hS, hB, h => by
  simp only [Region.forkB, Bool.and_eq_true, decide_eq_true_eq] at hB
  obtain ⟨⟨hr, hin⟩, hB'⟩ := hB
  refine ⟨fun h0 => (by rw [hr] at h0; cases h0), fun j hj => ?_⟩
  have hj' := hj
  rw [hr] at hj
  have hji : j = i := by simpa using hj
  subst hji
  have h1 : wpOp P ops Q j (fun a' w' => S w' ∧ wpFork P ops Q S c R l a' w') a w := h
  exact ⟨hin, wpOp_mono (fun a' w' h2 => ⟨fun _ => h2.1, wpAnyT_fork hsel hQ hn l _ _ _ (inv.set hj' hin) (fun _ => h2.1) hB' h2.2⟩) h1⟩
 | .one i (k + 3) l, listed, a, w, inv, hS, hB, h => by
  simp only [Region.forkB, Bool.and_eq_true, decide_eq_true_eq] at hB
  obtain ⟨⟨⟨hr, hin⟩, hcl⟩, hB'⟩ := hB
  refine ⟨fun h0 => (by rw [hr] at h0; cases h0), fun j hj => ?_⟩
  have hj' := hj
  rw [hr] at hj
  have hji : j = i := by simpa using hj
  subst hji
  have h1 : wpOp P ops Q j (fun a' w' => wpFork P ops Q S c R l a' w') a w := h
  have hno : ∀ w', Before c S (listed.setIfInBounds j true) w' := fun w' h => by rw [hcl] at h; cases h
  exact ⟨hin, wpOp_mono (fun a' w' h2 => ⟨hno w', wpAnyT_fork hsel hQ hn l _ _ _ (inv.set hj' hin) (hno w') hB' h2⟩) h1⟩
 | .fork m e r s, listed, a, w, inv, hS, hB, h => by
  simp only [Region.forkB, Bool.and_eq_true, Bool.or_eq_true, decide_eq_true_eq] at hB
  obtain ⟨⟨⟨⟨⟨hr, hmn⟩, hcn⟩, hsz⟩, hB1⟩, hB2⟩ := hB
  obtain ⟨h1, h2⟩ := h
  refine ⟨fun h0 => (by rcases hr with hr | hr <;> (rw [hr] at h0; cases h0)), fun j hj => ?_⟩
  have hj' := hj
  have hji : j = m ∨ j = e := by
   rcases hr with hr | hr <;> (rw [hr] at hj; simp at hj)
   ·exact hj.symm
   ·exact hj
  rcases hji with rfl | rfl
  ·exact ⟨hmn, wpOp_mono (fun a' w' h3 => ⟨fun _ => h3.1, wpAnyT_fork hsel hQ hn r _ _ _ (inv.set hj' hmn) (fun _ => h3.1) hB1 h3.2⟩) h1⟩
  ·refine ⟨hcn, wpOp_mono (fun a' w' h3 => ⟨fun _ => h3.1, ?_⟩) h2⟩
   have := wpAnyT_fork hsel hQ hn s _ _ _ (inv.set hj' hcn) (fun _ => h3.1) hB2 h3.2
   rwa [← hsz] at this
 | .frk3 m e r s, listed, a, w, inv, hS, hB, h => by
  simp only [Region.forkB, Bool.and_eq_true, Bool.or_eq_true, decide_eq_true_eq] at hB
  obtain ⟨⟨⟨⟨⟨⟨hr, hmn⟩, hcn⟩, hsz⟩, hcl⟩, hB1⟩, hB2⟩ := hB
  obtain ⟨h1, h2⟩ := h
  have hno : ∀ (j : Nat) w', Before c S (listed.setIfInBounds j true) w' := fun j w' h => by have := set_other h; rw [hcl] at this; cases this
  refine ⟨fun h0 => (by rcases hr with hr | hr <;> (rw [hr] at h0; cases h0)), fun j hj => ?_⟩
  have hj' := hj
  have hji : j = m ∨ j = e := by
   rcases hr with hr | hr <;> (rw [hr] at hj; simp at hj)
   ·exact hj.symm
   ·exact hj
  rcases hji with rfl | rfl
  ·exact ⟨hmn, wpOp_mono (fun a' w' h3 => ⟨hno j w', wpAnyT_fork hsel hQ hn r _ _ _ (inv.set hj' hmn) (hno j w') hB1 h3⟩) h1⟩
  ·refine ⟨hcn, wpOp_mono (fun a' w' h3 => ⟨hno j w', ?_⟩) h2⟩
   have := wpAnyT_fork hsel hQ hn s _ _ _ (inv.set hj' hcn) (hno j w') hB2 h3
   rwa [← hsz] at this
def Region.regFB (md : Region.Mode) (ops : Array Oper) (n c : Nat) (ord : OrdF) : Bool :=
 Region.noSelect ops && decide (n = ops.size) && decide (ord.size = n) && Region.forkB md ops n c 0 ord (Array.replicate ops.size false)
def OrdF.ofL : List (Nat × Nat) → OrdF → OrdF
 | [], t => t
 | (i, k) :: l, t => .one i k (OrdF.ofL l t)
theorem wpFork_ofL {c : Nat} {R : Act → World → Prop} (t : OrdF) : ∀ (l : List (Nat × Nat)) (a : Act) (w : World), wpOrd P ops Q S (fun a w => wpFork P ops Q S c R t a w) l a w → wpFork P ops Q S c R (OrdF.ofL l t) a w
 | [], a, w, h => h
 | (i, 0) :: l, a, w, h => by
  obtain ⟨oi, v, h0, hy, hK⟩ := h
  exact ⟨oi, v, h0, hy, wpFork_ofL t l _ _ hK⟩
 | (i, 1) :: l, a, w, h => by
  obtain ⟨oi, v, h0, hy, hK⟩ := h
  exact ⟨oi, v, h0, hy, wpFork_ofL t l _ _ hK⟩
 | (i, 2) :: l, a, w, h => by
  have h1 : wpOp P ops Q i (fun a' w' => S w' ∧ wpOrd P ops Q S (fun a w => wpFork P ops Q S c R t a w) l a' w') a w := h
  exact wpOp_mono (fun a' w' h2 => ⟨h2.1, wpFork_ofL t l _ _ h2.2⟩) h1
 | (i, k + 3) :: l, a, w, h => by
  have h1 : wpOp P ops Q i (fun a' w' => wpOrd P ops Q S (fun a w => wpFork P ops Q S c R t a w) l a' w') a w := h
  exact wpOp_mono (fun a' w' h2 => wpFork_ofL t l _ _ h2) h1
theorem fork_of {c : Nat} {R : Act → World → Prop} {m e : Nat} {r s : OrdF} {a : Act} {w : World} (h1 : wpOrd P ops Q S (fun a w => wpFork P ops Q S c R r a w) [(m, 2)] a w) (h2 : wpOrd P ops Q S (fun a w => wpFork P ops Q S c R s a w) [(e, 2)] a w) : wpFork P ops Q S c R (.fork m e r s) a w :=
 ⟨show wpOp P ops Q m (fun a' w' => S w' ∧ wpFork P ops Q S c R r a' w') a w from h1, show wpOp P ops Q e (fun a' w' => S w' ∧ wpFork P ops Q S c R s a' w') a w from h2⟩
theorem frk3_of {c : Nat} {R : Act → World → Prop} {m e : Nat} {r s : OrdF} {a : Act} {w : World} (h1 : wpOrd P ops Q S (fun a w => wpFork P ops Q S c R r a w) [(m, 3)] a w) (h2 : wpOrd P ops Q S (fun a w => wpFork P ops Q S c R s a w) [(e, 3)] a w) : wpFork P ops Q S c R (.frk3 m e r s) a w :=
 ⟨show wpOp P ops Q m (fun a' w' => wpFork P ops Q S c R r a' w') a w from h1, show wpOp P ops Q e (fun a' w' => wpFork P ops Q S c R s a' w') a w from h2⟩
end
abbrev cpB := Lib.compareBytes
theorem u8_asymm {a b : UInt8} (h : a < b) : ¬ b < a := by
 rw [UInt8.lt_iff_toNat_lt] at *
 omega
theorem cpB_cons (a b : UInt8) (l m : List UInt8) : cpB (a :: l) (b :: m) = if a < b then -1 else if b < a then 1 else cpB l m := rfl
theorem cpB_same (a : UInt8) (l m : List UInt8) : cpB (a :: l) (a :: m) = cpB l m := by
 rw [cpB_cons, if_neg, if_neg] <;> (rw [UInt8.lt_iff_toNat_lt]; omega)
theorem cpB_app : ∀ (p l m : List UInt8), cpB (p ++ l) (p ++ m) = cpB l m
 | [], _, _ => rfl
 | a :: p, l, m => (cpB_same a _ _).trans (cpB_app p l m)
theorem cpB_lt {a b : UInt8} (h : a < b) (l m : List UInt8) : cpB (a :: l) (b :: m) = -1 := by rw [cpB_cons, if_pos h]
theorem cpB_gt {a b : UInt8} (h : b < a) (l m : List UInt8) : cpB (a :: l) (b :: m) = 1 := by rw [cpB_cons, if_neg (u8_asymm h), if_pos h]
theorem cpB_eq : ∀ {l m : List UInt8}, cpB l m = 0 → l = m
 | [], [], _ => rfl
 | [], _ :: _, h => by cases h
 | _ :: _, [], h => by cases h
 | a :: l, b :: m, h => by
  rw [cpB_cons] at h
  split at h
  ·cases h
  ·split at h
   ·cases h
   ·rename_i h1 h2
    have : a = b := UInt8.toNat_inj.1 (by rw [UInt8.lt_iff_toNat_lt] at h1 h2; omega)
    rw [this, cpB_eq h]
theorem cpB_refl : ∀ l : List UInt8, cpB l l = 0
 | [] => rfl
 | a :: l => (cpB_same a l l).trans (cpB_refl l)
theorem bless_iff : ∀ l m : List UInt8, Op.bytesLess l m = true ↔ cpB l m = -1
 | [], [] => ⟨fun h => (by cases h), fun h => (by cases h)⟩
 | [], _ :: _ => ⟨fun _ => rfl, fun _ => rfl⟩
 | _ :: _, [] => ⟨fun h => (by cases h), fun h => (by cases h)⟩
 | a :: l, b :: m => by
  rw [cpB_cons]
  have ih := bless_iff l m
  unfold Op.bytesLess
  by_cases h1 : a < b
  ·simp [h1]
  ·by_cases h2 : b < a
   ·have : ¬ a = b := fun e => by subst e; exact h1 h2
    simp [h1, h2, this]
   ·have : a = b := UInt8.toNat_inj.1 (by rw [UInt8.lt_iff_toNat_lt] at h1 h2; omega)
    subst this
    simpa [h1] using ih
theorem cpB_len : ∀ {l m x y : List UInt8}, l.length = m.length → ¬ cpB l m = 0 → cpB (l ++ x) (m ++ y) = cpB l m
 | [], [], _, _, _, h => absurd rfl h
 | [], _ :: _, _, _, h, _ => by cases h
 | _ :: _, [], _, _, h, _ => by cases h
 | a :: l, b :: m, x, y, hl, h => by
  rw [List.cons_append, List.cons_append, cpB_cons, cpB_cons]
  rw [cpB_cons] at h
  split
  ·rfl
  ·split
   ·rfl
   ·rename_i h1 h2
    rw [if_neg h1, if_neg h2] at h
    exact cpB_len (Nat.succ.inj hl) h
theorem be_cmp : ∀ (k u v : Nat), u < 256 ^ k → v < 256 ^ k → cpB ((List.range k).map fun i => UInt8.ofNat (u / 256 ^ (k - 1 - i) % 256)) ((List.range k).map fun i => UInt8.ofNat (v / 256 ^ (k - 1 - i) % 256)) = Lib.compareInt u v
 | 0, u, v, hu, hv => by
  have h1 : u = 0 := by simpa using hu
  have h2 : v = 0 := by simpa using hv
  rw [h1, h2]; rfl
 | k + 1, u, v, hu, hv => by
  rw [List.range_succ_eq_map, List.map_cons, List.map_cons, List.map_map, List.map_map]
  have e0 : k + 1 - 1 - 0 = k := by omega
  rw [e0]
  have hk : 0 < 256 ^ k := Nat.pow_pos (by decide)
  have hu1 : u / 256 ^ k < 256 := (Nat.div_lt_iff_lt_mul hk).2 (by rw [Nat.pow_succ, Nat.mul_comm] at hu; exact hu)
  have hv1 : v / 256 ^ k < 256 := (Nat.div_lt_iff_lt_mul hk).2 (by rw [Nat.pow_succ, Nat.mul_comm] at hv; exact hv)
  rw [Nat.mod_eq_of_lt hu1, Nat.mod_eq_of_lt hv1]
  have step : ∀ w : Nat, (List.range k).map ((fun i => UInt8.ofNat (w / 256 ^ (k + 1 - 1 - i) % 256)) ∘ Nat.succ) = (List.range k).map fun i => UInt8.ofNat (w % 256 ^ k / 256 ^ (k - 1 - i) % 256) := fun w => by
   refine List.map_congr_left fun i hi => ?_
   have hi' := List.mem_range.1 hi
   show UInt8.ofNat (w / 256 ^ (k + 1 - 1 - (i + 1)) % 256) = _
   congr 1
   have e1 : k + 1 - 1 - (i + 1) = k - 1 - i := by omega
   rw [e1]
   have e2 : 256 ^ k = 256 ^ (k - 1 - i) * (256 * 256 ^ i) := by rw [← Nat.pow_succ', ← Nat.pow_add]; congr 1; omega
   rw [e2, Nat.mod_mul_right_div_self, Nat.mod_mul_right_mod]
  rw [step, step]
  have hdu := Nat.div_add_mod u (256 ^ k)
  have hdv := Nat.div_add_mod v (256 ^ k)
  have hmu := Nat.mod_lt u hk
  have hmv := Nat.mod_lt v hk
  generalize u / 256 ^ k = a at *
  generalize v / 256 ^ k = b at *
  generalize u % 256 ^ k = c at *
  generalize v % 256 ^ k = d at *
  have ih := be_cmp k c d hmu hmv
  have lt : ∀ {p q : Nat}, p < 256 → q < 256 → (UInt8.ofNat p < UInt8.ofNat q ↔ p < q) := fun {p q} hp hq => by
   rw [UInt8.lt_iff_toNat_lt]
   simp only [UInt8.toNat_ofNat']
   rw [Nat.mod_eq_of_lt hp, Nat.mod_eq_of_lt hq]
  rcases Nat.lt_trichotomy a b with h | h | h
  ·rw [cpB_lt ((lt hu1 hv1).2 h)]
   have : 256 ^ k * (a + 1) ≤ 256 ^ k * b := Nat.mul_le_mul_left _ h
   rw [Nat.mul_add, Nat.mul_one] at this
   exact (compareInt_neg (by omega)).symm
  ·subst h
   rw [cpB_same, ih]
   unfold Lib.compareInt
   by_cases h1 : c < d
   ·rw [if_pos (by omega), if_pos (by omega)]
   ·by_cases h2 : d < c
    ·rw [if_neg (by omega), if_pos (by omega), if_neg (by omega), if_pos (by omega)]
    ·rw [if_neg (by omega), if_neg (by omega), if_neg (by omega), if_neg (by omega)]
  ·rw [cpB_gt ((lt hv1 hu1).2 h)]
   have : 256 ^ k * (b + 1) ≤ 256 ^ k * a := Nat.mul_le_mul_left _ h
   rw [Nat.mul_add, Nat.mul_one] at this
   exact (compareInt_pos (by omega)).symm
theorem be8_cmp {m n : Int} (hm : wfI m) (hn : wfI n) : cpB (Tr.be8 m) (Tr.be8 n) = Lib.compareInt m n := by
  have h1 := wfI_r hm
  have h2 := wfI_r hn
  have key : ∀ w : Int, Tr.be8 w = (List.range 8).map fun i => UInt8.ofNat ((w + 9223372036854775808).toNat / 256 ^ (8 - 1 - i) % 256) := fun w => by
    unfold Tr.be8
    refine List.map_congr_left fun i hi => ?_
    have : (2 : Nat) ^ (8 * (7 - i)) = 256 ^ (8 - 1 - i) := by rw [Nat.pow_mul]
    rw [this]
  rw [key, key, be_cmp 8 _ _ (by have : (256 : Nat) ^ 8 = 18446744073709551616 := by decide
                                 omega) (by have : (256 : Nat) ^ 8 = 18446744073709551616 := by decide
                                            omega)]
  unfold Lib.compareInt
  by_cases h3 : m < n
  · rw [if_pos (by omega), if_pos h3]
  · by_cases h4 : n < m
    · rw [if_neg (by omega), if_pos (by omega), if_neg h3, if_pos h4]
    · rw [if_neg (by omega), if_neg (by omega), if_neg h3, if_neg h4]
theorem compareInt_zero {m n : Int} (h : Lib.compareInt m n = 0) : m = n := by
 unfold Lib.compareInt at h
 split at h
 ·cases h
 ·split at h
  ·cases h
  ·omega
theorem esc_cons (c : UInt8) (l : List UInt8) : Tr.esc (c :: l) = (if c = 0 then [0, 255] else [c]) ++ Tr.esc l := rfl
theorem esc_cmp : ∀ (s t x y : List UInt8), ¬ cpB s t = 0 → cpB (Tr.esc s ++ 0 :: 0 :: x) (Tr.esc t ++ 0 :: 0 :: y) = cpB s t
 | [], [], _, _, h => absurd rfl h
 | [], c :: t, x, y, _ => by
  rw [esc_cons]
  by_cases hc : c = 0
  ·rw [if_pos hc]
   exact (cpB_same 0 _ _).trans (cpB_lt (by decide) _ _)
  ·rw [if_neg hc]
   refine cpB_lt ?_ _ _
   rw [UInt8.lt_iff_toNat_lt]
   exact Nat.pos_of_ne_zero (fun e => hc (UInt8.toNat_inj.1 e))
 | c :: t, [], x, y, _ => by
  rw [esc_cons]
  by_cases hc : c = 0
  ·rw [if_pos hc]
   exact (cpB_same 0 _ _).trans (cpB_gt (by decide) _ _)
  ·rw [if_neg hc]
   refine cpB_gt ?_ _ _
   rw [UInt8.lt_iff_toNat_lt]
   exact Nat.pos_of_ne_zero (fun e => hc (UInt8.toNat_inj.1 e))
 | c :: s, e :: t, x, y, h => by
  by_cases he : c = e
  ·subst he
   rw [cpB_same] at h ⊢
   rw [esc_cons, esc_cons, List.append_assoc, List.append_assoc, cpB_app]
   exact esc_cmp s t x y h
  ·rw [esc_cons, esc_cons, cpB_cons]
   have hd : ∀ c : UInt8, ∃ r, (if c = 0 then [0, 255] else [c]) = c :: r := fun c => by
    by_cases hc : c = 0
    ·exact ⟨[255], by rw [if_pos hc, hc]⟩
    ·exact ⟨[], if_neg hc⟩
   obtain ⟨r1, h1⟩ := hd c
   obtain ⟨r2, h2⟩ := hd e
   rw [h1, h2]
   simp only [List.cons_append]
   rw [cpB_cons]
   by_cases h3 : c < e
   ·rw [if_pos h3, if_pos h3]
   ·by_cases h4 : e < c
    ·rw [if_neg h3, if_pos h4, if_neg h3, if_pos h4]
    ·exact absurd (UInt8.toNat_inj.1 (by rw [UInt8.lt_iff_toNat_lt] at h3 h4; omega)) he
theorem nm_cmp : ∀ (s t x y : List UInt8), (∀ c ∈ s, c ≠ 0) → (∀ c ∈ t, c ≠ 0) → ¬ cpB s t = 0 → cpB (s ++ 0 :: x) (t ++ 0 :: y) = cpB s t
 | [], [], _, _, _, _, h => absurd rfl h
 | [], c :: t, x, y, _, ht, _ => cpB_lt (by rw [UInt8.lt_iff_toNat_lt]; exact Nat.pos_of_ne_zero (fun e => ht c List.mem_cons_self (UInt8.toNat_inj.1 e))) _ _
 | c :: t, [], x, y, ht, _, _ => cpB_gt (by rw [UInt8.lt_iff_toNat_lt]; exact Nat.pos_of_ne_zero (fun e => ht c List.mem_cons_self (UInt8.toNat_inj.1 e))) _ _
 | c :: s, e :: t, x, y, hs, ht, h => by
  rw [List.cons_append, List.cons_append, cpB_cons, cpB_cons]
  rw [cpB_cons] at h
  split
  ·rfl
  ·split
   ·rfl
   ·rename_i h1 h2
    rw [if_neg h1, if_neg h2] at h
    exact nm_cmp s t x y (fun c hc => hs c (List.mem_cons_of_mem _ hc)) (fun c hc => ht c (List.mem_cons_of_mem _ hc)) h
def Agree (a b : Tr) : Prop := (a.cmp b = 0 → a = b) ∧ (¬ a.cmp b = 0 → ∀ x y, cpB (a.kb ++ x) (b.kb ++ y) = a.cmp b)
theorem kB_nat8 {k : Int} (h0 : 0 ≤ k) (h1 : k < 256) : (Tr.kB k).toNat = k.toNat := by
 unfold Tr.kB
 simp only [UInt8.toNat_ofNat']
 omega
theorem kB_cmp {k k' : Int} (h0 : 0 ≤ k) (h1 : k < 256) (h2 : 0 ≤ k') (h3 : k' < 256) (hne : k ≠ k') (l m : List UInt8) : cpB (Tr.kB k :: l) (Tr.kB k' :: m) = Lib.compareInt k k' := by
 by_cases h : k < k'
 ·rw [compareInt_neg h]
  refine cpB_lt ?_ _ _
  rw [UInt8.lt_iff_toNat_lt, kB_nat8 h0 h1, kB_nat8 h2 h3]
  omega
 ·have h : k' < k := by omega
  rw [compareInt_pos h]
  refine cpB_gt ?_ _ _
  rw [UInt8.lt_iff_toNat_lt, kB_nat8 h0 h1, kB_nat8 h2 h3]
  omega
theorem compareInt_ne {k k' : Int} (h : k ≠ k') : ¬ Lib.compareInt k k' = 0 := fun e => h (compareInt_zero e)
theorem snd_k {k n : Int} {s : ByteArray} {l d : Tr} (h : (Tr.mk k n s l d).snd = true) (hw : wfT (.mk k n s l d)) : 0 < k ∧ k < 12 := by
 rcases snd_nf h hw with ⟨h, _⟩ | ⟨h, _⟩ | ⟨h, _⟩ | ⟨h, _⟩ | ⟨h, _⟩ <;> omega
def NZ (t : Tr) : Prop := ∀ m ∈ t.nms, ∀ c ∈ m.data.toList, c ≠ 0
theorem bytes_eq {s t : ByteArray} (h : s.data.toList = t.data.toList) : s = t := by
 obtain ⟨⟨l⟩⟩ := s
 obtain ⟨⟨m⟩⟩ := t
 have : l = m := h
 rw [this]
theorem agree_I {k n n' : Int} (hk : k = 3 ∨ k = 9 ∨ k = 10) (wn : wfI n) (wn' : wfI n') : Agree (.mk k n ⟨#[]⟩ .nil .nil) (.mk k n' ⟨#[]⟩ .nil .nil) := by
 have hI : Tr.kI k = true := by rcases hk with rfl | rfl | rfl <;> rfl
 have hc : (Tr.mk k n ⟨#[]⟩ .nil .nil).cmp (.mk k n' ⟨#[]⟩ .nil .nil) = Lib.compareInt n n' := by rw [cmp_mk, if_neg (fun h => h rfl), if_pos hI]
 unfold Agree
 rw [hc]
 refine ⟨fun h => by rw [compareInt_zero h], fun h x y => ?_⟩
 have hb : ∀ n : Int, (Tr.mk k n ⟨#[]⟩ .nil .nil).kb = Tr.kB k :: Tr.be8 n := fun n => by
  show _ :: (if Tr.kI k = true then _ else _) = _
  rw [if_pos hI]
 rw [hb, hb, List.cons_append, List.cons_append, cpB_same, ← be8_cmp wn wn']
 rw [← be8_cmp wn wn'] at h
 exact cpB_len (by rw [be8_len, be8_len]) h
theorem agree_T {k : Int} {s s' : ByteArray} (hk : k = 4 ∨ k = 7 ∨ k = 8) : Agree (.mk k 0 s .nil .nil) (.mk k 0 s' .nil .nil) := by
 have hI : Tr.kI k = false := by rcases hk with rfl | rfl | rfl <;> rfl
 have hT : Tr.kT k = true := by rcases hk with rfl | rfl | rfl <;> rfl
 have hc : (Tr.mk k 0 s .nil .nil).cmp (.mk k 0 s' .nil .nil) = cpB s.data.toList s'.data.toList := by rw [cmp_mk, if_neg (fun h => h rfl), hI, if_neg (by decide), if_pos hT]
 unfold Agree
 rw [hc]
 refine ⟨fun h => by rw [bytes_eq (cpB_eq h)], fun h x y => ?_⟩
 have hb : ∀ s : ByteArray, (Tr.mk k 0 s .nil .nil).kb = Tr.kB k :: (Tr.esc s.data.toList ++ [0, 0]) := fun s => by
  show _ :: (if Tr.kI k = true then _ else if Tr.kT k = true then _ else _) = _
  rw [hI, if_neg (by decide), if_pos hT]
 rw [hb, hb, List.cons_append, List.cons_append, cpB_same, List.append_assoc, List.append_assoc]
 exact esc_cmp _ _ _ _ h
def Both (a b : Tr) : Prop := (a.isV = true ∧ b.isV = true) ∨ (a.isL = true ∧ b.isL = true) ∨ (a.isF = true ∧ b.isF = true ∧ NZ a ∧ NZ b)
theorem cmp_nil_cons {t : Tr} (h : ¬ t.len = 0) : Tr.nil.cmp t = -1 := by
 show (if t.len = 0 then (0 : Int) else -1) = -1
 rw [if_neg h]
theorem agree_all : ∀ (a b : Tr), Both a b → a.snd = true → b.snd = true → wfT a → wfT b → Agree a b
 | .mk k n s l d, b, hB, ha, hb, wa, wb => by
  cases b with
  | nil => rcases hB with ⟨_, h⟩ | ⟨h, _⟩ | ⟨h, _⟩ <;> cases h
  | lcons _ _ => rcases hB with ⟨_, h⟩ | ⟨h, _⟩ | ⟨h, _⟩ <;> cases h
  | fcons _ _ _ => rcases hB with ⟨_, h⟩ | ⟨h, _⟩ | ⟨h, _⟩ <;> cases h
  | mk k' n' s' l' d' =>
   have hk := snd_k ha wa
   have hk' := snd_k hb wb
   by_cases hne : k = k'
   ·subst hne
    rcases snd_nf ha wa with ⟨h1, rfl, rfl, rfl, rfl⟩ | ⟨h1, rfl, rfl, rfl, _, _⟩ | ⟨h1, rfl, _, rfl, rfl, _⟩ | ⟨h1, rfl, rfl, rfl, h2⟩ | ⟨h1, rfl, rfl, rfl, h2, h3⟩ <;>
     rcases snd_nf hb wb with ⟨g1, rfl, rfl, rfl, rfl⟩ | ⟨g1, rfl, rfl, rfl, _, _⟩ | ⟨g1, rfl, _, rfl, rfl, _⟩ | ⟨g1, rfl, rfl, rfl, g2⟩ | ⟨g1, rfl, rfl, rfl, g2, g3⟩ <;> try omega
    ·refine ⟨fun _ => rfl, fun h => absurd ?_ h⟩
     rcases h1 with rfl | rfl | rfl <;> rfl
    ·exact agree_I h1 wa.2.1 wb.2.1
    ·exact agree_T h1
    ·subst h1
     have ih := agree_all l l' (.inr (.inl ⟨wa.2.2.2.2.2.1, wb.2.2.2.2.2.1⟩)) h2 g2 wa.2.2.2.2.2.2.2.1 wb.2.2.2.2.2.2.2.1
     have hc : (Tr.mk 6 0 ⟨#[]⟩ l .nil).cmp (.mk 6 0 ⟨#[]⟩ l' .nil) = l.cmp l' := rfl
     unfold Agree
     rw [hc]
     exact ⟨fun h => by rw [ih.1 h], fun h x y => (cpB_same _ _ _).trans (ih.2 h x y)⟩
    ·subst h1
     have ih := agree_all d d' (.inr (.inr ⟨wa.2.2.2.2.2.2.1, wb.2.2.2.2.2.2.1, fun m hm => (isN_ne (isN_of _ _ m h3 hm)).2, fun m hm => (isN_ne (isN_of _ _ m g3 hm)).2⟩)) h2 g2 wa.2.2.2.2.2.2.2.2 wb.2.2.2.2.2.2.2.2
     have hc : (Tr.mk 5 0 ⟨#[]⟩ .nil d).cmp (.mk 5 0 ⟨#[]⟩ .nil d') = d.cmp d' := rfl
     unfold Agree
     rw [hc]
     exact ⟨fun h => by rw [ih.1 h], fun h x y => (cpB_same _ _ _).trans (ih.2 h x y)⟩
   ·have hc : (Tr.mk k n s l d).cmp (.mk k' n' s' l' d') = Lib.compareInt k k' := by rw [cmp_mk, if_pos hne]
    unfold Agree
    rw [hc]
    exact ⟨fun h => absurd h (compareInt_ne hne), fun _ x y => kB_cmp (by omega) (by omega) (by omega) (by omega) hne _ _⟩
 | .nil, b, hB, ha, hb, wa, wb => by
  cases b with
  | nil => exact ⟨fun _ => rfl, fun h => absurd rfl h⟩
  | mk _ _ _ _ _ => rcases hB with ⟨h, _⟩ | ⟨_, h⟩ | ⟨_, h, _⟩ <;> cases h
  | lcons t r =>
   have hc := cmp_nil_cons (t := .lcons t r) (fun h => by simp [Tr.len, Tr.lst] at h)
   unfold Agree
   rw [hc]
   exact ⟨fun h => (by cases h), fun _ x y => cpB_lt (by decide) _ _⟩
  | fcons m t r =>
   have hc := cmp_nil_cons (t := .fcons m t r) (fun h => by simp [Tr.len, Tr.lst] at h)
   unfold Agree
   rw [hc]
   exact ⟨fun h => (by cases h), fun _ x y => cpB_lt (by decide) _ _⟩
 | .lcons t r, b, hB, ha, hb, wa, wb => by
  have hL : b.isL = true := by rcases hB with ⟨h, _⟩ | ⟨_, h⟩ | ⟨h, _⟩; cases h; exact h; cases h
  have ha' : (t.snd && r.snd) = true := ha
  rw [Bool.and_eq_true] at ha'
  cases b with
  | mk _ _ _ _ _ => cases hL
  | fcons _ _ _ => cases hL
  | nil => exact ⟨fun h => (by cases h), fun _ x y => cpB_gt (by decide) _ _⟩
  | lcons t' r' =>
   have hb' : (t'.snd && r'.snd) = true := hb
   rw [Bool.and_eq_true] at hb'
   have ih1 := agree_all t t' (.inl ⟨wa.1, wb.1⟩) ha'.1 hb'.1 wa.2.1 wb.2.1
   have ih2 := agree_all r r' (.inr (.inl ⟨(by rcases hB with ⟨h, _⟩ | ⟨h, _⟩ | ⟨h, _⟩; cases h; exact h; cases h), hL⟩)) ha'.2 hb'.2 wa.2.2 wb.2.2
   have hc : (Tr.lcons t r).cmp (.lcons t' r') = if t.cmp t' ≠ 0 then t.cmp t' else r.cmp r' := rfl
   unfold Agree
   rw [hc]
   by_cases h0 : t.cmp t' = 0
   ·rw [if_neg (fun h => h h0)]
    have := ih1.1 h0
    subst this
    refine ⟨fun h => by rw [ih2.1 h], fun h x y => ?_⟩
    show cpB (1 :: ((t.kb ++ r.kb) ++ x)) (1 :: ((t.kb ++ r'.kb) ++ y)) = _
    rw [cpB_same, List.append_assoc, List.append_assoc, cpB_app]
    exact ih2.2 h x y
   ·rw [if_pos h0]
    refine ⟨fun h => absurd h h0, fun _ x y => ?_⟩
    show cpB (1 :: ((t.kb ++ r.kb) ++ x)) (1 :: ((t'.kb ++ r'.kb) ++ y)) = _
    rw [cpB_same, List.append_assoc, List.append_assoc]
    exact ih1.2 h0 _ _
 | .fcons m t r, b, hB, ha, hb, wa, wb => by
  have hF : b.isF = true ∧ r.isF = true ∧ NZ (.fcons m t r) ∧ NZ b := by
   rcases hB with ⟨h, _⟩ | ⟨h, _⟩ | ⟨h1, h2, h3, h4⟩
   ·cases h
   ·cases h
   ·exact ⟨h2, h1, h3, h4⟩
  have ha' : (t.snd && r.snd) = true := ha
  rw [Bool.and_eq_true] at ha'
  cases b with
  | mk _ _ _ _ _ => cases hF.1
  | lcons _ _ => cases hF.1
  | nil => exact ⟨fun h => (by cases h), fun _ x y => cpB_gt (by decide) _ _⟩
  | fcons m' t' r' =>
   have hb' : (t'.snd && r'.snd) = true := hb
   rw [Bool.and_eq_true] at hb'
   obtain ⟨hF1, hF2, hz, hz'⟩ := hF
   have ih1 := agree_all t t' (.inl ⟨wa.2.1, wb.2.1⟩) ha'.1 hb'.1 wa.2.2.1 wb.2.2.1
   have ih2 := agree_all r r' (.inr (.inr ⟨hF2, hF1, fun x hx => hz x (List.mem_cons_of_mem _ hx), fun x hx => hz' x (List.mem_cons_of_mem _ hx)⟩)) ha'.2 hb'.2 wa.2.2.2 wb.2.2.2
   have hc : (Tr.fcons m t r).cmp (.fcons m' t' r') = if cpB m.data.toList m'.data.toList ≠ 0 then cpB m.data.toList m'.data.toList else if t.cmp t' ≠ 0 then t.cmp t' else r.cmp r' := rfl
   have hkb : ∀ (m : ByteArray) (t r : Tr) (x : List UInt8), (Tr.fcons m t r).kb ++ x = 1 :: (m.data.toList ++ 0 :: (t.kb ++ (r.kb ++ x))) := fun m t r x => by
    show (1 :: (m.data.toList ++ (0 :: (t.kb ++ r.kb)))) ++ x = _
    simp
   unfold Agree
   rw [hc]
   by_cases hm : cpB m.data.toList m'.data.toList = 0
   ·rw [if_neg (fun h => h hm)]
    have := bytes_eq (cpB_eq hm)
    subst this
    by_cases h0 : t.cmp t' = 0
    ·rw [if_neg (fun h => h h0)]
     have := ih1.1 h0
     subst this
     refine ⟨fun h => by rw [ih2.1 h], fun h x y => ?_⟩
     rw [hkb, hkb, cpB_same, cpB_app, cpB_same, cpB_app]
     exact ih2.2 h x y
    ·rw [if_pos h0]
     refine ⟨fun h => absurd h h0, fun _ x y => ?_⟩
     rw [hkb, hkb, cpB_same, cpB_app, cpB_same]
     exact ih1.2 h0 _ _
   ·rw [if_pos hm]
    refine ⟨fun h => absurd h hm, fun _ x y => ?_⟩
    rw [hkb, hkb, cpB_same]
    exact nm_cmp _ _ _ _ (fun c hc => hz m List.mem_cons_self c hc) (fun c hc => hz' m' List.mem_cons_self c hc) hm
theorem allowed_nf {t : Tr} (hv : t.isV = true) (h : t.allowed = true) (hw : wfT t) : t = .mk 0 0 ⟨#[]⟩ .nil .nil ∨ t.valid = true := by
 cases t with
 | nil => cases hv
 | lcons _ _ => cases hv
 | fcons _ _ _ => cases hv
 | mk k n s l d =>
  by_cases hk : k = 0
  ·subst hk
   simp only [Tr.allowed, if_true, Bool.and_eq_true, decide_eq_true_eq] at h
   obtain ⟨⟨⟨h1, h2⟩, h3⟩, h4⟩ := h
   left
   rw [h1, empty_size h2, isL_nil hw.2.2.2.2.2.1 h3, isF_nil hw.2.2.2.2.2.2.1 h4]
  ·right
   simpa only [Tr.allowed, if_neg hk] using h
theorem valid_snd {t : Tr} (h : t.valid = true) : t.snd = true := by
 unfold Tr.valid at h
 simp only [Bool.and_eq_true] at h
 exact h.2
theorem agree_key {a b : Tr} (hva : a.isV = true) (hvb : b.isV = true) (ha : a.allowed = true) (hb : b.allowed = true) (wa : wfT a) (wb : wfT b) : Agree a b := by
 have head : ∀ {k : Int} {n : Int} {s : ByteArray} {l d : Tr}, 0 < k ∧ k < 12 → Agree (.mk 0 0 ⟨#[]⟩ .nil .nil) (.mk k n s l d) ∧ Agree (.mk k n s l d) (.mk 0 0 ⟨#[]⟩ .nil .nil) := fun {k n s l d} hk => by
  have c1 : (Tr.mk 0 0 ⟨#[]⟩ .nil .nil).cmp (.mk k n s l d) = Lib.compareInt 0 k := by rw [cmp_mk, if_pos (by omega)]
  have c2 : (Tr.mk k n s l d).cmp (.mk 0 0 ⟨#[]⟩ .nil .nil) = Lib.compareInt k 0 := by rw [cmp_mk, if_pos (by omega)]
  unfold Agree
  rw [c1, c2]
  exact ⟨⟨fun h => absurd h (compareInt_ne (by omega)), fun _ x y => kB_cmp (by omega) (by omega) (by omega) (by omega) (by omega) _ _⟩, ⟨fun h => absurd h (compareInt_ne (by omega)), fun _ x y => kB_cmp (by omega) (by omega) (by omega) (by omega) (by omega) _ _⟩⟩
 rcases allowed_nf hva ha wa with rfl | h1 <;> rcases allowed_nf hvb hb wb with rfl | h2
 ·exact ⟨fun _ => rfl, fun h => absurd rfl h⟩
 ·cases b with
  | mk k n s l d => exact (head (snd_k (valid_snd h2) wb)).1
  | nil => cases hvb
  | lcons _ _ => cases hvb
  | fcons _ _ _ => cases hvb
 ·cases a with
  | mk k n s l d => exact (head (snd_k (valid_snd h1) wa)).2
  | nil => cases hva
  | lcons _ _ => cases hva
  | fcons _ _ _ => cases hva
 ·exact agree_all a b (.inl ⟨hva, hvb⟩) (valid_snd h1) (valid_snd h2) wa wb
theorem cmp_self {a : Tr} (hv : a.isV = true) (h : a.allowed = true) (w : wfT a) : a.cmp a = 0 := by
 have h1 := agree_key hv hv h h w w
 rcases Decidable.em (a.cmp a = 0) with h0 | h0
 ·exact h0
 ·have h2 := h1.2 h0 [] []
  rw [List.append_nil, cpB_refl] at h2
  exact absurd h2.symm h0
theorem valid_allowed {t : Tr} (hv : t.isV = true) (h : t.valid = true) (hw : wfT t) : t.allowed = true := by
 cases t with
 | nil => cases hv
 | lcons _ _ => cases hv
 | fcons _ _ _ => cases hv
 | mk k n s l d =>
  have := snd_k (valid_snd h) hw
  simpa only [Tr.allowed, if_neg (show ¬ k = 0 by omega)] using h
end Go.Proofs.YtilopjlcgmedgaaGreatDoor
