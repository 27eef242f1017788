import Derived.Test.YtilopjlcgmedgaaGreatDoorOd4
namespace Go.Proofs.YtilopjlcgmedgaaGreatDoor
open Go.ChangeShapes Go.WideShapes Go.ChangeAt Go.RowKit Go.ChangeMaps Go.Joins Go.Deep
set_option linter.unusedVariables false
set_option linter.unusedSimpArgs false
set_option maxRecDepth 100000
theorem rd_K0 (w : World) (R : Nat) (s : ByteArray) (p : Nat) (dp : Int) (post : List UInt8) (hs : s.size ≤ maxLen) (hd1 : 1 ≤ dp) (hd2 : dp ≤ 16) (hd0 : dp = 1) (hp : s.data.toList.drop p = (Tr.mk 0 0 ⟨#[]⟩ .nil .nil).kb ++ post) (hRb : Box w R [.string s, .int .i64 (p : Int), .int .u8 0, .int .i64 0]) : Calls Tryz.prog 54 #[.pointer (some ⟨R, 0, none⟩), .int .i64 dp] w fun e w' => ∃ cs, e = .returned (.agg cs.toArray) ∧ VAt w' (fun k => w.heap.size ≤ k) (Tr.mk 0 0 ⟨#[]⟩ .nil .nil) cs ∧ Box w' R [.string s, .int .i64 ((p + (Tr.mk 0 0 ⟨#[]⟩ .nil .nil).kb.length : Nat) : Int), .int .u8 0, .int .i64 0] ∧ w.grownBy w' (some R) := by
 have hkb : (Tr.mk 0 0 ⟨#[]⟩ .nil .nil).kb = [Tr.kB 0] := by simp [Tr.kb]
 rw [hkb] at hp ⊢
 rw [List.cons_append] at hp
 obtain ⟨hb0, hp0⟩ := drop_one hp
 have hk0 : (((Tr.kB 0).toNat : Nat) : Int) = 0 := by decide
 refine cv2 Tryz.func54 rfl rfl rfl fun a hf => ?_
 have hX := Bx.start w
 clear hX
 have hX := Bx.bare w (fun k => k ≠ R)
 refine gc hf ?_
 intro a hf
 refine sv_alloc (zs := [.int .i64 0, .int .i64 0, .string ⟨#[]⟩, .slice none 0 0, .slice none 0 0]) hf hX zero_val dd (fun a C1 W hC hf hX hA => ?_)
 have hneC1 : R ≠ C1 := fun e => by have := hRb.lt; omega
 replace hRb := hRb.keep hA
 clear hC hA
 refine go hf ?_
 intro a hf
 refine sv_call hf fnOK_78 rfl (next_any R s hs p (Tr.kB 0) hb0 _ hRb) dd ?_
 rintro e W2 ⟨rfl, hb, hg⟩
 replace hX := hX.grown hg (fun k e => by obtain rfl := Option.some.inj e; exact ⟨Nat.zero_le _, (by intro x hx e; simp only [List.mem_cons, List.not_mem_nil, or_false] at hx; rcases hx with rfl; exact hneC1 e.symm), fun p hp _ => by rw [List.mem_singleton.1 hp]; exact fun h => h rfl⟩)
 replace hRb := hb
 clear hb hg
 obtain ⟨W, hWW⟩ : ∃ X, X = W2 := ⟨_, rfl⟩
 subst hWW
 refine ⟨_, rfl, fun a hf => ?_⟩
 refine sv_run (v := .int .i64 (((Tr.kB 0).toNat : Nat) : Int)) hf dd (fun a hf => ex_cv83 hf rfl rfl) (fun a hf => ?_)
 refine go hf ?_
 intro a hf
 rw [hk0] at hf
 first | refine gc hf ?_ | refine go hf ?_
 intro a hf
 refine sv_lm hf rfl (hRb.cell 3 _ rfl) Tryz.underlying32 rfl dd (fun a hf => ?_)
 refine go hf ?_
 intro a hf
 refine sv_cmp hf rfl rfl false (congrArg some (decide_eq_false (by omega))) dd (fun a hf => ?_)
 refine go hf ?_
 intro a hf
 refine sv_cmp hf rfl rfl false (congrArg some (decide_eq_false (by omega))) dd (fun a hf => ?_)
 refine go hf ?_
 intro a hf
 refine sv_build (cs := [.int .i64 0, .int .i64 0, .string ⟨#[]⟩, .slice none 0 0, .slice none 0 0]) hf rfl (by kernel_rfl) dd (fun a hf => ?_)
 refine sv_alloc (zs := [.int .i64 0, .int .i64 0, .string ⟨#[]⟩, .slice none 0 0, .slice none 0 0]) hf hX zero_val dd (fun a C2 W hC hf hX hA => ?_)
 have hneC2 : R ≠ C2 := fun e => by have := hRb.lt; omega
 replace hRb := hRb.keep hA
 clear hC hA
 refine sv_sr hf hX rfl rfl 0 rfl rfl info_val (ones_of rfl) [(C2, [.int .i64 0, .int .i64 0, .string ⟨#[]⟩, .slice none 0 0, .slice none 0 0]), (C1, [.int .i64 0, .int .i64 0, .string ⟨#[]⟩, .slice none 0 0, .slice none 0 0])] rfl (fun W hX hO => ?_)
 replace hRb := hRb.other hO hneC2
 clear hO
 refine go hf ?_
 intro a hf
 refine wp_block ?_
 refine gc hf ?_
 intro a hf
 refine sv_lr hf hX rfl 0 rfl u29 info_val dd (fun a hf => ?_)
 refine sv_sr hf hX rfl rfl 1 rfl rfl info_val (ones_of rfl) [(C2, [.int .i64 0, .int .i64 0, .string ⟨#[]⟩, .slice none 0 0, .slice none 0 0]), (C1, [.int .i64 0, .int .i64 0, .string ⟨#[]⟩, .slice none 0 0, .slice none 0 0])] rfl (fun W hX hO => ?_)
 replace hRb := hRb.other hO hneC1
 clear hO
 refine go hf ?_
 intro a hf
 exact bodyPost_ret (res_cellV (c := 4) (C := C1) (cs := [.int .i64 0, .int .i64 0, .string ⟨#[]⟩, .slice none 0 0, .slice none 0 0]) (T := 29) rfl (hf.rel 4 _ rfl) (hX.get (i := 1) rfl) u29 info_val) hf.defers ⟨_, rfl, VAt.mk (by decide) (by decide) (by decide) (LAt.nil _ _) (FAt.nil _ _), hRb, ⟨hX.low.os, hX.low.tape, hX.low.output, (hX.bas _ List.mem_cons_self).1, fun k hk hne => (hX.bas _ List.mem_cons_self).2 k hk (fun e => hne (by rw [e]))⟩⟩
theorem rd_K1 (w : World) (R : Nat) (s : ByteArray) (p : Nat) (dp : Int) (post : List UInt8) (hs : s.size ≤ maxLen) (hd1 : 1 ≤ dp) (hd2 : dp ≤ 16) (hp : s.data.toList.drop p = (Tr.mk 1 0 ⟨#[]⟩ .nil .nil).kb ++ post) (hRb : Box w R [.string s, .int .i64 (p : Int), .int .u8 0, .int .i64 0]) : Calls Tryz.prog 54 #[.pointer (some ⟨R, 0, none⟩), .int .i64 dp] w fun e w' => ∃ cs, e = .returned (.agg cs.toArray) ∧ VAt w' (fun k => w.heap.size ≤ k) (Tr.mk 1 0 ⟨#[]⟩ .nil .nil) cs ∧ Box w' R [.string s, .int .i64 ((p + (Tr.mk 1 0 ⟨#[]⟩ .nil .nil).kb.length : Nat) : Int), .int .u8 0, .int .i64 0] ∧ w.grownBy w' (some R) := by
 have hkb : (Tr.mk 1 0 ⟨#[]⟩ .nil .nil).kb = [Tr.kB 1] := by simp [Tr.kb]
 rw [hkb] at hp ⊢
 rw [List.cons_append] at hp
 obtain ⟨hb0, hp0⟩ := drop_one hp
 have hk0 : (((Tr.kB 1).toNat : Nat) : Int) = 1 := by decide
 refine cv2 Tryz.func54 rfl rfl rfl fun a hf => ?_
 have hX := Bx.start w
 clear hX
 have hX := Bx.bare w (fun k => k ≠ R)
 refine gc hf ?_
 intro a hf
 refine sv_alloc (zs := [.int .i64 0, .int .i64 0, .string ⟨#[]⟩, .slice none 0 0, .slice none 0 0]) hf hX zero_val dd (fun a C1 W hC hf hX hA => ?_)
 have hneC1 : R ≠ C1 := fun e => by have := hRb.lt; omega
 replace hRb := hRb.keep hA
 clear hC hA
 refine go hf ?_
 intro a hf
 refine sv_call hf fnOK_78 rfl (next_any R s hs p (Tr.kB 1) hb0 _ hRb) dd ?_
 rintro e W2 ⟨rfl, hb, hg⟩
 replace hX := hX.grown hg (fun k e => by obtain rfl := Option.some.inj e; exact ⟨Nat.zero_le _, (by intro x hx e; simp only [List.mem_cons, List.not_mem_nil, or_false] at hx; rcases hx with rfl; exact hneC1 e.symm), fun p hp _ => by rw [List.mem_singleton.1 hp]; exact fun h => h rfl⟩)
 replace hRb := hb
 clear hb hg
 obtain ⟨W, hWW⟩ : ∃ X, X = W2 := ⟨_, rfl⟩
 subst hWW
 refine ⟨_, rfl, fun a hf => ?_⟩
 refine sv_run (v := .int .i64 (((Tr.kB 1).toNat : Nat) : Int)) hf dd (fun a hf => ex_cv83 hf rfl rfl) (fun a hf => ?_)
 refine go hf ?_
 intro a hf
 rw [hk0] at hf
 first | refine gc hf ?_ | refine go hf ?_
 intro a hf
 refine sv_lm hf rfl (hRb.cell 3 _ rfl) Tryz.underlying32 rfl dd (fun a hf => ?_)
 refine go hf ?_
 intro a hf
 refine sv_cmp hf rfl rfl false (congrArg some (decide_eq_false (by omega))) dd (fun a hf => ?_)
 refine go hf ?_
 intro a hf
 refine sv_build (cs := [.int .i64 1, .int .i64 0, .string ⟨#[]⟩, .slice none 0 0, .slice none 0 0]) hf rfl (by kernel_rfl) dd (fun a hf => ?_)
 refine sv_alloc (zs := [.int .i64 0, .int .i64 0, .string ⟨#[]⟩, .slice none 0 0, .slice none 0 0]) hf hX zero_val dd (fun a C2 W hC hf hX hA => ?_)
 have hneC2 : R ≠ C2 := fun e => by have := hRb.lt; omega
 replace hRb := hRb.keep hA
 clear hC hA
 refine sv_sr hf hX rfl rfl 0 rfl rfl info_val (ones_of rfl) [(C2, [.int .i64 1, .int .i64 0, .string ⟨#[]⟩, .slice none 0 0, .slice none 0 0]), (C1, [.int .i64 0, .int .i64 0, .string ⟨#[]⟩, .slice none 0 0, .slice none 0 0])] rfl (fun W hX hO => ?_)
 replace hRb := hRb.other hO hneC2
 clear hO
 refine go hf ?_
 intro a hf
 refine wp_block ?_
 refine gc hf ?_
 intro a hf
 refine sv_lr hf hX rfl 0 rfl u29 info_val dd (fun a hf => ?_)
 refine sv_sr hf hX rfl rfl 1 rfl rfl info_val (ones_of rfl) [(C2, [.int .i64 1, .int .i64 0, .string ⟨#[]⟩, .slice none 0 0, .slice none 0 0]), (C1, [.int .i64 1, .int .i64 0, .string ⟨#[]⟩, .slice none 0 0, .slice none 0 0])] rfl (fun W hX hO => ?_)
 replace hRb := hRb.other hO hneC1
 clear hO
 refine go hf ?_
 intro a hf
 exact bodyPost_ret (res_cellV (c := 4) (C := C1) (cs := [.int .i64 1, .int .i64 0, .string ⟨#[]⟩, .slice none 0 0, .slice none 0 0]) (T := 29) rfl (hf.rel 4 _ rfl) (hX.get (i := 1) rfl) u29 info_val) hf.defers ⟨_, rfl, VAt.mk (by decide) (by decide) (by decide) (LAt.nil _ _) (FAt.nil _ _), hRb, ⟨hX.low.os, hX.low.tape, hX.low.output, (hX.bas _ List.mem_cons_self).1, fun k hk hne => (hX.bas _ List.mem_cons_self).2 k hk (fun e => hne (by rw [e]))⟩⟩
theorem rd_K2 (w : World) (R : Nat) (s : ByteArray) (p : Nat) (dp : Int) (post : List UInt8) (hs : s.size ≤ maxLen) (hd1 : 1 ≤ dp) (hd2 : dp ≤ 16) (hp : s.data.toList.drop p = (Tr.mk 2 0 ⟨#[]⟩ .nil .nil).kb ++ post) (hRb : Box w R [.string s, .int .i64 (p : Int), .int .u8 0, .int .i64 0]) : Calls Tryz.prog 54 #[.pointer (some ⟨R, 0, none⟩), .int .i64 dp] w fun e w' => ∃ cs, e = .returned (.agg cs.toArray) ∧ VAt w' (fun k => w.heap.size ≤ k) (Tr.mk 2 0 ⟨#[]⟩ .nil .nil) cs ∧ Box w' R [.string s, .int .i64 ((p + (Tr.mk 2 0 ⟨#[]⟩ .nil .nil).kb.length : Nat) : Int), .int .u8 0, .int .i64 0] ∧ w.grownBy w' (some R) := by
 have hkb : (Tr.mk 2 0 ⟨#[]⟩ .nil .nil).kb = [Tr.kB 2] := by simp [Tr.kb]
 rw [hkb] at hp ⊢
 rw [List.cons_append] at hp
 obtain ⟨hb0, hp0⟩ := drop_one hp
 have hk0 : (((Tr.kB 2).toNat : Nat) : Int) = 2 := by decide
 refine cv2 Tryz.func54 rfl rfl rfl fun a hf => ?_
 have hX := Bx.start w
 clear hX
 have hX := Bx.bare w (fun k => k ≠ R)
 refine gc hf ?_
 intro a hf
 refine sv_alloc (zs := [.int .i64 0, .int .i64 0, .string ⟨#[]⟩, .slice none 0 0, .slice none 0 0]) hf hX zero_val dd (fun a C1 W hC hf hX hA => ?_)
 have hneC1 : R ≠ C1 := fun e => by have := hRb.lt; omega
 replace hRb := hRb.keep hA
 clear hC hA
 refine go hf ?_
 intro a hf
 refine sv_call hf fnOK_78 rfl (next_any R s hs p (Tr.kB 2) hb0 _ hRb) dd ?_
 rintro e W2 ⟨rfl, hb, hg⟩
 replace hX := hX.grown hg (fun k e => by obtain rfl := Option.some.inj e; exact ⟨Nat.zero_le _, (by intro x hx e; simp only [List.mem_cons, List.not_mem_nil, or_false] at hx; rcases hx with rfl; exact hneC1 e.symm), fun p hp _ => by rw [List.mem_singleton.1 hp]; exact fun h => h rfl⟩)
 replace hRb := hb
 clear hb hg
 obtain ⟨W, hWW⟩ : ∃ X, X = W2 := ⟨_, rfl⟩
 subst hWW
 refine ⟨_, rfl, fun a hf => ?_⟩
 refine sv_run (v := .int .i64 (((Tr.kB 2).toNat : Nat) : Int)) hf dd (fun a hf => ex_cv83 hf rfl rfl) (fun a hf => ?_)
 refine go hf ?_
 intro a hf
 rw [hk0] at hf
 first | refine gc hf ?_ | refine go hf ?_
 intro a hf
 refine sv_lm hf rfl (hRb.cell 3 _ rfl) Tryz.underlying32 rfl dd (fun a hf => ?_)
 refine go hf ?_
 intro a hf
 refine sv_cmp hf rfl rfl false (congrArg some (decide_eq_false (by omega))) dd (fun a hf => ?_)
 refine go hf ?_
 intro a hf
 refine sv_build (cs := [.int .i64 2, .int .i64 0, .string ⟨#[]⟩, .slice none 0 0, .slice none 0 0]) hf rfl (by kernel_rfl) dd (fun a hf => ?_)
 refine sv_alloc (zs := [.int .i64 0, .int .i64 0, .string ⟨#[]⟩, .slice none 0 0, .slice none 0 0]) hf hX zero_val dd (fun a C2 W hC hf hX hA => ?_)
 have hneC2 : R ≠ C2 := fun e => by have := hRb.lt; omega
 replace hRb := hRb.keep hA
 clear hC hA
 refine sv_sr hf hX rfl rfl 0 rfl rfl info_val (ones_of rfl) [(C2, [.int .i64 2, .int .i64 0, .string ⟨#[]⟩, .slice none 0 0, .slice none 0 0]), (C1, [.int .i64 0, .int .i64 0, .string ⟨#[]⟩, .slice none 0 0, .slice none 0 0])] rfl (fun W hX hO => ?_)
 replace hRb := hRb.other hO hneC2
 clear hO
 refine go hf ?_
 intro a hf
 refine wp_block ?_
 refine gc hf ?_
 intro a hf
 refine sv_lr hf hX rfl 0 rfl u29 info_val dd (fun a hf => ?_)
 refine sv_sr hf hX rfl rfl 1 rfl rfl info_val (ones_of rfl) [(C2, [.int .i64 2, .int .i64 0, .string ⟨#[]⟩, .slice none 0 0, .slice none 0 0]), (C1, [.int .i64 2, .int .i64 0, .string ⟨#[]⟩, .slice none 0 0, .slice none 0 0])] rfl (fun W hX hO => ?_)
 replace hRb := hRb.other hO hneC1
 clear hO
 refine go hf ?_
 intro a hf
 exact bodyPost_ret (res_cellV (c := 4) (C := C1) (cs := [.int .i64 2, .int .i64 0, .string ⟨#[]⟩, .slice none 0 0, .slice none 0 0]) (T := 29) rfl (hf.rel 4 _ rfl) (hX.get (i := 1) rfl) u29 info_val) hf.defers ⟨_, rfl, VAt.mk (by decide) (by decide) (by decide) (LAt.nil _ _) (FAt.nil _ _), hRb, ⟨hX.low.os, hX.low.tape, hX.low.output, (hX.bas _ List.mem_cons_self).1, fun k hk hne => (hX.bas _ List.mem_cons_self).2 k hk (fun e => hne (by rw [e]))⟩⟩
theorem rd_K11 (w : World) (R : Nat) (s : ByteArray) (p : Nat) (dp : Int) (post : List UInt8) (hs : s.size ≤ maxLen) (hd1 : 1 ≤ dp) (hd2 : dp ≤ 16) (hp : s.data.toList.drop p = (Tr.mk 11 0 ⟨#[]⟩ .nil .nil).kb ++ post) (hRb : Box w R [.string s, .int .i64 (p : Int), .int .u8 0, .int .i64 0]) : Calls Tryz.prog 54 #[.pointer (some ⟨R, 0, none⟩), .int .i64 dp] w fun e w' => ∃ cs, e = .returned (.agg cs.toArray) ∧ VAt w' (fun k => w.heap.size ≤ k) (Tr.mk 11 0 ⟨#[]⟩ .nil .nil) cs ∧ Box w' R [.string s, .int .i64 ((p + (Tr.mk 11 0 ⟨#[]⟩ .nil .nil).kb.length : Nat) : Int), .int .u8 0, .int .i64 0] ∧ w.grownBy w' (some R) := by
 have hkb : (Tr.mk 11 0 ⟨#[]⟩ .nil .nil).kb = [Tr.kB 11] := by simp [Tr.kb]
 rw [hkb] at hp ⊢
 rw [List.cons_append] at hp
 obtain ⟨hb0, hp0⟩ := drop_one hp
 have hk0 : (((Tr.kB 11).toNat : Nat) : Int) = 11 := by decide
 refine cv2 Tryz.func54 rfl rfl rfl fun a hf => ?_
 have hX := Bx.start w
 clear hX
 have hX := Bx.bare w (fun k => k ≠ R)
 refine gc hf ?_
 intro a hf
 refine sv_alloc (zs := [.int .i64 0, .int .i64 0, .string ⟨#[]⟩, .slice none 0 0, .slice none 0 0]) hf hX zero_val dd (fun a C1 W hC hf hX hA => ?_)
 have hneC1 : R ≠ C1 := fun e => by have := hRb.lt; omega
 replace hRb := hRb.keep hA
 clear hC hA
 refine go hf ?_
 intro a hf
 refine sv_call hf fnOK_78 rfl (next_any R s hs p (Tr.kB 11) hb0 _ hRb) dd ?_
 rintro e W2 ⟨rfl, hb, hg⟩
 replace hX := hX.grown hg (fun k e => by obtain rfl := Option.some.inj e; exact ⟨Nat.zero_le _, (by intro x hx e; simp only [List.mem_cons, List.not_mem_nil, or_false] at hx; rcases hx with rfl; exact hneC1 e.symm), fun p hp _ => by rw [List.mem_singleton.1 hp]; exact fun h => h rfl⟩)
 replace hRb := hb
 clear hb hg
 obtain ⟨W, hWW⟩ : ∃ X, X = W2 := ⟨_, rfl⟩
 subst hWW
 refine ⟨_, rfl, fun a hf => ?_⟩
 refine sv_run (v := .int .i64 (((Tr.kB 11).toNat : Nat) : Int)) hf dd (fun a hf => ex_cv83 hf rfl rfl) (fun a hf => ?_)
 refine go hf ?_
 intro a hf
 rw [hk0] at hf
 first | refine gc hf ?_ | refine go hf ?_
 intro a hf
 refine sv_lm hf rfl (hRb.cell 3 _ rfl) Tryz.underlying32 rfl dd (fun a hf => ?_)
 refine go hf ?_
 intro a hf
 refine sv_cmp hf rfl rfl false (congrArg some (decide_eq_false (by omega))) dd (fun a hf => ?_)
 refine go hf ?_
 intro a hf
 refine sv_build (cs := [.int .i64 11, .int .i64 0, .string ⟨#[]⟩, .slice none 0 0, .slice none 0 0]) hf rfl (by kernel_rfl) dd (fun a hf => ?_)
 refine sv_alloc (zs := [.int .i64 0, .int .i64 0, .string ⟨#[]⟩, .slice none 0 0, .slice none 0 0]) hf hX zero_val dd (fun a C2 W hC hf hX hA => ?_)
 have hneC2 : R ≠ C2 := fun e => by have := hRb.lt; omega
 replace hRb := hRb.keep hA
 clear hC hA
 refine sv_sr hf hX rfl rfl 0 rfl rfl info_val (ones_of rfl) [(C2, [.int .i64 11, .int .i64 0, .string ⟨#[]⟩, .slice none 0 0, .slice none 0 0]), (C1, [.int .i64 0, .int .i64 0, .string ⟨#[]⟩, .slice none 0 0, .slice none 0 0])] rfl (fun W hX hO => ?_)
 replace hRb := hRb.other hO hneC2
 clear hO
 refine go hf ?_
 intro a hf
 refine wp_block ?_
 refine gc hf ?_
 intro a hf
 refine sv_lr hf hX rfl 0 rfl u29 info_val dd (fun a hf => ?_)
 refine sv_sr hf hX rfl rfl 1 rfl rfl info_val (ones_of rfl) [(C2, [.int .i64 11, .int .i64 0, .string ⟨#[]⟩, .slice none 0 0, .slice none 0 0]), (C1, [.int .i64 11, .int .i64 0, .string ⟨#[]⟩, .slice none 0 0, .slice none 0 0])] rfl (fun W hX hO => ?_)
 replace hRb := hRb.other hO hneC1
 clear hO
 refine go hf ?_
 intro a hf
 exact bodyPost_ret (res_cellV (c := 4) (C := C1) (cs := [.int .i64 11, .int .i64 0, .string ⟨#[]⟩, .slice none 0 0, .slice none 0 0]) (T := 29) rfl (hf.rel 4 _ rfl) (hX.get (i := 1) rfl) u29 info_val) hf.defers ⟨_, rfl, VAt.mk (by decide) (by decide) (by decide) (LAt.nil _ _) (FAt.nil _ _), hRb, ⟨hX.low.os, hX.low.tape, hX.low.output, (hX.bas _ List.mem_cons_self).1, fun k hk hne => (hX.bas _ List.mem_cons_self).2 k hk (fun e => hne (by rw [e]))⟩⟩
theorem rd_K3 (n : Int) (wn : wfI n) (w : World) (R : Nat) (s : ByteArray) (p : Nat) (dp : Int) (post : List UInt8) (hs : s.size ≤ maxLen) (hd1 : 1 ≤ dp) (hd2 : dp ≤ 16) (hp : s.data.toList.drop p = (Tr.mk 3 n ⟨#[]⟩ .nil .nil).kb ++ post) (hRb : Box w R [.string s, .int .i64 (p : Int), .int .u8 0, .int .i64 0]) : Calls Tryz.prog 54 #[.pointer (some ⟨R, 0, none⟩), .int .i64 dp] w fun e w' => ∃ cs, e = .returned (.agg cs.toArray) ∧ VAt w' (fun k => w.heap.size ≤ k) (Tr.mk 3 n ⟨#[]⟩ .nil .nil) cs ∧ Box w' R [.string s, .int .i64 ((p + (Tr.mk 3 n ⟨#[]⟩ .nil .nil).kb.length : Nat) : Int), .int .u8 0, .int .i64 0] ∧ w.grownBy w' (some R) := by
 have hkb : (Tr.mk 3 n ⟨#[]⟩ .nil .nil).kb = (Tr.kB 3 :: Tr.be8 n) := rfl
 rw [hkb] at hp ⊢
 rw [List.cons_append] at hp
 obtain ⟨hb0, hp0⟩ := drop_one hp
 have hk0 : (((Tr.kB 3).toNat : Nat) : Int) = 3 := by decide
 obtain ⟨u, hun, hul, huq⟩ := un_nat wn
 refine cv2 Tryz.func54 rfl rfl rfl fun a hf => ?_
 have hX := Bx.start w
 clear hX
 have hX := Bx.bare w (fun k => k ≠ R)
 refine gc hf ?_
 intro a hf
 refine sv_alloc (zs := [.int .i64 0, .int .i64 0, .string ⟨#[]⟩, .slice none 0 0, .slice none 0 0]) hf hX zero_val dd (fun a C1 W hC hf hX hA => ?_)
 have hneC1 : R ≠ C1 := fun e => by have := hRb.lt; omega
 replace hRb := hRb.keep hA
 clear hC hA
 refine go hf ?_
 intro a hf
 refine sv_call hf fnOK_78 rfl (next_any R s hs p (Tr.kB 3) hb0 _ hRb) dd ?_
 rintro e W2 ⟨rfl, hb, hg⟩
 replace hX := hX.grown hg (fun k e => by obtain rfl := Option.some.inj e; exact ⟨Nat.zero_le _, (by intro x hx e; simp only [List.mem_cons, List.not_mem_nil, or_false] at hx; rcases hx with rfl; exact hneC1 e.symm), fun p hp _ => by rw [List.mem_singleton.1 hp]; exact fun h => h rfl⟩)
 replace hRb := hb
 clear hb hg
 obtain ⟨W, hWW⟩ : ∃ X, X = W2 := ⟨_, rfl⟩
 subst hWW
 refine ⟨_, rfl, fun a hf => ?_⟩
 refine sv_run (v := .int .i64 (((Tr.kB 3).toNat : Nat) : Int)) hf dd (fun a hf => ex_cv83 hf rfl rfl) (fun a hf => ?_)
 refine go hf ?_
 intro a hf
 rw [hk0] at hf
 first | refine gc hf ?_ | refine go hf ?_
 intro a hf
 refine sv_lm hf rfl (hRb.cell 3 _ rfl) Tryz.underlying32 rfl dd (fun a hf => ?_)
 refine go hf ?_
 intro a hf
 refine sv_cmp hf rfl rfl false (congrArg some (decide_eq_false (by omega))) dd (fun a hf => ?_)
 refine go hf ?_
 intro a hf
 refine sv_build (cs := [.int .i64 3, .int .i64 0, .string ⟨#[]⟩, .slice none 0 0, .slice none 0 0]) hf rfl (by kernel_rfl) dd (fun a hf => ?_)
 refine sv_alloc (zs := [.int .i64 0, .int .i64 0, .string ⟨#[]⟩, .slice none 0 0, .slice none 0 0]) hf hX zero_val dd (fun a C2 W hC hf hX hA => ?_)
 have hneC2 : R ≠ C2 := fun e => by have := hRb.lt; omega
 replace hRb := hRb.keep hA
 clear hC hA
 refine sv_sr hf hX rfl rfl 0 rfl rfl info_val (ones_of rfl) [(C2, [.int .i64 3, .int .i64 0, .string ⟨#[]⟩, .slice none 0 0, .slice none 0 0]), (C1, [.int .i64 0, .int .i64 0, .string ⟨#[]⟩, .slice none 0 0, .slice none 0 0])] rfl (fun W hX hO => ?_)
 replace hRb := hRb.other hO hneC2
 clear hO
 refine go hf ?_
 intro a hf
 refine wp_block ?_
 refine gc hf ?_
 intro a hf
 have hu0 : u / 2 ^ (64 - 8 * 0) = 0 := Nat.div_eq_of_lt (by omega)
 have hf0 := hf.sub (env' := [(0, .pointer (some ⟨R, 0, none⟩)), (4, .pointer (some ⟨C1, 0, none⟩)), (6, .pointer (some ⟨C2, 0, none⟩)), (7, .int .u64 ((u / 2 ^ (64 - 8 * 0) : Nat) : Int)), (43, .int .i64 ((0 : Nat) : Int))]) (by rw [hu0]; exact sub_cons rfl (sub_cons rfl (sub_cons rfl (sub_cons rfl (sub_cons rfl (sub_nil))))))
 refine wp_block (wp_loop (fun a X => ∃ (q : Nat), FrV 94 [(0, .pointer (some ⟨R, 0, none⟩)), (4, .pointer (some ⟨C1, 0, none⟩)), (6, .pointer (some ⟨C2, 0, none⟩)), (7, .int .u64 ((u / 2 ^ (64 - 8 * q) : Nat) : Int)), (43, .int .i64 (q : Int))] a ∧ Bx ⟨bare w, [(w, fun k => k ≠ R)]⟩ [(C2, [.int .i64 3, .int .i64 0, .string ⟨#[]⟩, .slice none 0 0, .slice none 0 0]), (C1, [.int .i64 0, .int .i64 0, .string ⟨#[]⟩, .slice none 0 0, .slice none 0 0])] X ∧ q ≤ 8 ∧ Box X R [.string s, .int .i64 ((p + 1 + q : Nat) : Int), .int .u8 0, .int .i64 0]) (fun a _ => 8 - (intOf (a.eval (.tmp 43))).toNat) ⟨0, hf0, hX, Nat.zero_le _, hRb⟩ ?_)
 clear hf hX hRb hf0
 rintro a W ⟨q, hf, hX, hq, hRb⟩
 have hm43 : a.eval (.tmp 43) = .int .i64 (q : Int) := hf.rel 43 _ rfl
 rcases Decidable.em ((q : Int) < 8) with hgo | hgo
 ·
  refine gc hf ?_
  intro a hf
  refine ct hf hgo fun a hf => ?_
  refine go hf ?_
  intro a hf
  refine wp_block ?_
  have hq8 : q < 8 := by omega
  obtain ⟨vq, hvqe⟩ : ∃ v, v = u / 2 ^ (64 - 8 * q) := ⟨_, rfl⟩
  have hvq : vq < 72057594037927936 := by rw [hvqe]; exact be8_small hul hq8
  obtain ⟨bq, hbqe⟩ : ∃ b, b = u / 2 ^ (56 - 8 * q) % 256 := ⟨_, rfl⟩
  have hbq : bq < 256 := by omega
  have hby : s.data.toList[p + 1 + q]? = some (UInt8.ofNat bq) := by rw [drop_at hp0 q, List.getElem?_append_left (by rw [be8_len]; exact hq8), be8_at huq hq8, hbqe]
  have hbn : (((UInt8.ofNat bq).toNat : Nat) : Int) = ((bq : Nat) : Int) := by rw [toNat_of]; omega
  rw [← hvqe] at hf
  refine gc hf ?_
  intro a hf
  refine sv_run (v := .int .u64 ((vq * 256 : Nat) : Int)) hf dd (fun a hf => ex_shl8 hf hvq rfl rfl rfl) (fun a hf => ?_)
  refine go hf ?_
  intro a hf
  refine sv_call hf fnOK_78 rfl (next_any R s hs (p + 1 + q) (UInt8.ofNat bq) hby _ hRb) dd ?_
  rintro e W2 ⟨rfl, hb, hg⟩
  replace hX := hX.grown hg (fun k e => by obtain rfl := Option.some.inj e; exact ⟨Nat.zero_le _, (by intro x hx e; simp only [List.mem_cons, List.not_mem_nil, or_false] at hx; rcases hx with rfl | rfl; exact hneC2 e.symm; exact hneC1 e.symm), fun p hp _ => by rw [List.mem_singleton.1 hp]; exact fun h => h rfl⟩)
  replace hRb := hb
  clear hb hg
  obtain ⟨W, hWW⟩ : ∃ X, X = W2 := ⟨_, rfl⟩
  subst hWW
  refine ⟨_, rfl, fun a hf => ?_⟩
  rw [hbn] at hf
  refine sv_run (v := .int .u64 ((bq : Nat) : Int)) hf dd (fun a hf => ex_cv864 hf hbq rfl rfl) (fun a hf => ?_)
  refine sv_run (v := .int .u64 ((vq * 256 + bq : Nat) : Int)) hf dd (fun a hf => ex_or64 hf hvq hbq rfl rfl rfl) (fun a hf => ?_)
  refine go hf ?_
  intro a hf
  refine sv_add ((q + 1 : Nat) : Int) hf rfl rfl (by rw [wrap_in (by omega)]; rfl) dd (fun a hf => ?_)
  refine go hf ?_
  intro a hf
  have hac := be8_acc (u := u) hq8
  rw [← hvqe, ← hbqe] at hac
  rw [hac] at hf
  refine ⟨⟨q + 1, hf.sub (sub_cons rfl (sub_cons rfl (sub_cons rfl (sub_cons rfl (sub_cons rfl (sub_nil)))))), hX, by omega, hRb⟩, ?_⟩
  have h5 : a.eval (.tmp 43) = .int .i64 ((q + 1 : Nat) : Int) := hf.rel 43 _ rfl
  rw [h5, hm43]; simp only [intOf, Int.toNat_natCast]; omega
 ·
  refine gc hf ?_
  intro a hf
  refine cf hf hgo fun a hf => ?_
  refine go hf ?_
  intro a hf
  refine wp_exit ?_
  simp only [Exit.inBlock, Exit.then, ↓reduceIte]
  obtain rfl : q = 8 := by omega
  rw [show u / 2 ^ (64 - 8 * 8) = u from Nat.div_one u] at hf
  refine gc hf ?_
  intro a hf
  refine sv_run (v := .int .u64 (n % 18446744073709551616)) hf dd (fun a hf => ex_xor63b hf wn huq rfl rfl rfl) (fun a hf => ?_)
  refine sv_run (v := .int .i64 n) hf dd (fun a hf => ex_cv643 hf wn rfl rfl) (fun a hf => ?_)
  refine go hf ?_
  intro a hf
  refine sv_sc (cs' := [.int .i64 3, .int .i64 n, .string ⟨#[]⟩, .slice none 0 0, .slice none 0 0]) hf hX rfl rfl 0 rfl dd rfl info_int rfl [(C2, [.int .i64 3, .int .i64 n, .string ⟨#[]⟩, .slice none 0 0, .slice none 0 0]), (C1, [.int .i64 0, .int .i64 0, .string ⟨#[]⟩, .slice none 0 0, .slice none 0 0])] rfl (fun W hX hO => ?_)
  replace hRb := hRb.other hO hneC2
  clear hO
  refine go hf ?_
  intro a hf
  refine sv_lr hf hX rfl 0 rfl u29 info_val dd (fun a hf => ?_)
  refine sv_sr hf hX rfl rfl 1 rfl rfl info_val (ones_of rfl) [(C2, [.int .i64 3, .int .i64 n, .string ⟨#[]⟩, .slice none 0 0, .slice none 0 0]), (C1, [.int .i64 3, .int .i64 n, .string ⟨#[]⟩, .slice none 0 0, .slice none 0 0])] rfl (fun W hX hO => ?_)
  replace hRb := hRb.other hO hneC1
  clear hO
  refine go hf ?_
  intro a hf
  exact bodyPost_ret (res_cellV (c := 4) (C := C1) (cs := [.int .i64 3, .int .i64 n, .string ⟨#[]⟩, .slice none 0 0, .slice none 0 0]) (T := 29) rfl (hf.rel 4 _ rfl) (hX.get (i := 1) rfl) u29 info_val) hf.defers ⟨_, rfl, VAt.mk (by decide) wn (by decide) (LAt.nil _ _) (FAt.nil _ _), (by rw [List.length_cons, be8_len]; exact hRb), ⟨hX.low.os, hX.low.tape, hX.low.output, (hX.bas _ List.mem_cons_self).1, fun k hk hne => (hX.bas _ List.mem_cons_self).2 k hk (fun e => hne (by rw [e]))⟩⟩
theorem rd_K9 (n : Int) (wn : wfI n) (w : World) (R : Nat) (s : ByteArray) (p : Nat) (dp : Int) (post : List UInt8) (hs : s.size ≤ maxLen) (hd1 : 1 ≤ dp) (hd2 : dp ≤ 16) (hp : s.data.toList.drop p = (Tr.mk 9 n ⟨#[]⟩ .nil .nil).kb ++ post) (hRb : Box w R [.string s, .int .i64 (p : Int), .int .u8 0, .int .i64 0]) : Calls Tryz.prog 54 #[.pointer (some ⟨R, 0, none⟩), .int .i64 dp] w fun e w' => ∃ cs, e = .returned (.agg cs.toArray) ∧ VAt w' (fun k => w.heap.size ≤ k) (Tr.mk 9 n ⟨#[]⟩ .nil .nil) cs ∧ Box w' R [.string s, .int .i64 ((p + (Tr.mk 9 n ⟨#[]⟩ .nil .nil).kb.length : Nat) : Int), .int .u8 0, .int .i64 0] ∧ w.grownBy w' (some R) := by
 have hkb : (Tr.mk 9 n ⟨#[]⟩ .nil .nil).kb = (Tr.kB 9 :: Tr.be8 n) := rfl
 rw [hkb] at hp ⊢
 rw [List.cons_append] at hp
 obtain ⟨hb0, hp0⟩ := drop_one hp
 have hk0 : (((Tr.kB 9).toNat : Nat) : Int) = 9 := by decide
 obtain ⟨u, hun, hul, huq⟩ := un_nat wn
 refine cv2 Tryz.func54 rfl rfl rfl fun a hf => ?_
 have hX := Bx.start w
 clear hX
 have hX := Bx.bare w (fun k => k ≠ R)
 refine gc hf ?_
 intro a hf
 refine sv_alloc (zs := [.int .i64 0, .int .i64 0, .string ⟨#[]⟩, .slice none 0 0, .slice none 0 0]) hf hX zero_val dd (fun a C1 W hC hf hX hA => ?_)
 have hneC1 : R ≠ C1 := fun e => by have := hRb.lt; omega
 replace hRb := hRb.keep hA
 clear hC hA
 refine go hf ?_
 intro a hf
 refine sv_call hf fnOK_78 rfl (next_any R s hs p (Tr.kB 9) hb0 _ hRb) dd ?_
 rintro e W2 ⟨rfl, hb, hg⟩
 replace hX := hX.grown hg (fun k e => by obtain rfl := Option.some.inj e; exact ⟨Nat.zero_le _, (by intro x hx e; simp only [List.mem_cons, List.not_mem_nil, or_false] at hx; rcases hx with rfl; exact hneC1 e.symm), fun p hp _ => by rw [List.mem_singleton.1 hp]; exact fun h => h rfl⟩)
 replace hRb := hb
 clear hb hg
 obtain ⟨W, hWW⟩ : ∃ X, X = W2 := ⟨_, rfl⟩
 subst hWW
 refine ⟨_, rfl, fun a hf => ?_⟩
 refine sv_run (v := .int .i64 (((Tr.kB 9).toNat : Nat) : Int)) hf dd (fun a hf => ex_cv83 hf rfl rfl) (fun a hf => ?_)
 refine go hf ?_
 intro a hf
 rw [hk0] at hf
 first | refine gc hf ?_ | refine go hf ?_
 intro a hf
 refine sv_lm hf rfl (hRb.cell 3 _ rfl) Tryz.underlying32 rfl dd (fun a hf => ?_)
 refine go hf ?_
 intro a hf
 refine sv_cmp hf rfl rfl false (congrArg some (decide_eq_false (by omega))) dd (fun a hf => ?_)
 refine go hf ?_
 intro a hf
 refine sv_build (cs := [.int .i64 9, .int .i64 0, .string ⟨#[]⟩, .slice none 0 0, .slice none 0 0]) hf rfl (by kernel_rfl) dd (fun a hf => ?_)
 refine sv_alloc (zs := [.int .i64 0, .int .i64 0, .string ⟨#[]⟩, .slice none 0 0, .slice none 0 0]) hf hX zero_val dd (fun a C2 W hC hf hX hA => ?_)
 have hneC2 : R ≠ C2 := fun e => by have := hRb.lt; omega
 replace hRb := hRb.keep hA
 clear hC hA
 refine sv_sr hf hX rfl rfl 0 rfl rfl info_val (ones_of rfl) [(C2, [.int .i64 9, .int .i64 0, .string ⟨#[]⟩, .slice none 0 0, .slice none 0 0]), (C1, [.int .i64 0, .int .i64 0, .string ⟨#[]⟩, .slice none 0 0, .slice none 0 0])] rfl (fun W hX hO => ?_)
 replace hRb := hRb.other hO hneC2
 clear hO
 refine go hf ?_
 intro a hf
 refine wp_block ?_
 refine gc hf ?_
 intro a hf
 have hu0 : u / 2 ^ (64 - 8 * 0) = 0 := Nat.div_eq_of_lt (by omega)
 have hf0 := hf.sub (env' := [(0, .pointer (some ⟨R, 0, none⟩)), (4, .pointer (some ⟨C1, 0, none⟩)), (6, .pointer (some ⟨C2, 0, none⟩)), (7, .int .u64 ((u / 2 ^ (64 - 8 * 0) : Nat) : Int)), (43, .int .i64 ((0 : Nat) : Int))]) (by rw [hu0]; exact sub_cons rfl (sub_cons rfl (sub_cons rfl (sub_cons rfl (sub_cons rfl (sub_nil))))))
 refine wp_block (wp_loop (fun a X => ∃ (q : Nat), FrV 94 [(0, .pointer (some ⟨R, 0, none⟩)), (4, .pointer (some ⟨C1, 0, none⟩)), (6, .pointer (some ⟨C2, 0, none⟩)), (7, .int .u64 ((u / 2 ^ (64 - 8 * q) : Nat) : Int)), (43, .int .i64 (q : Int))] a ∧ Bx ⟨bare w, [(w, fun k => k ≠ R)]⟩ [(C2, [.int .i64 9, .int .i64 0, .string ⟨#[]⟩, .slice none 0 0, .slice none 0 0]), (C1, [.int .i64 0, .int .i64 0, .string ⟨#[]⟩, .slice none 0 0, .slice none 0 0])] X ∧ q ≤ 8 ∧ Box X R [.string s, .int .i64 ((p + 1 + q : Nat) : Int), .int .u8 0, .int .i64 0]) (fun a _ => 8 - (intOf (a.eval (.tmp 43))).toNat) ⟨0, hf0, hX, Nat.zero_le _, hRb⟩ ?_)
 clear hf hX hRb hf0
 rintro a W ⟨q, hf, hX, hq, hRb⟩
 have hm43 : a.eval (.tmp 43) = .int .i64 (q : Int) := hf.rel 43 _ rfl
 rcases Decidable.em ((q : Int) < 8) with hgo | hgo
 ·
  refine gc hf ?_
  intro a hf
  refine ct hf hgo fun a hf => ?_
  refine go hf ?_
  intro a hf
  refine wp_block ?_
  have hq8 : q < 8 := by omega
  obtain ⟨vq, hvqe⟩ : ∃ v, v = u / 2 ^ (64 - 8 * q) := ⟨_, rfl⟩
  have hvq : vq < 72057594037927936 := by rw [hvqe]; exact be8_small hul hq8
  obtain ⟨bq, hbqe⟩ : ∃ b, b = u / 2 ^ (56 - 8 * q) % 256 := ⟨_, rfl⟩
  have hbq : bq < 256 := by omega
  have hby : s.data.toList[p + 1 + q]? = some (UInt8.ofNat bq) := by rw [drop_at hp0 q, List.getElem?_append_left (by rw [be8_len]; exact hq8), be8_at huq hq8, hbqe]
  have hbn : (((UInt8.ofNat bq).toNat : Nat) : Int) = ((bq : Nat) : Int) := by rw [toNat_of]; omega
  rw [← hvqe] at hf
  refine gc hf ?_
  intro a hf
  refine sv_run (v := .int .u64 ((vq * 256 : Nat) : Int)) hf dd (fun a hf => ex_shl8 hf hvq rfl rfl rfl) (fun a hf => ?_)
  refine go hf ?_
  intro a hf
  refine sv_call hf fnOK_78 rfl (next_any R s hs (p + 1 + q) (UInt8.ofNat bq) hby _ hRb) dd ?_
  rintro e W2 ⟨rfl, hb, hg⟩
  replace hX := hX.grown hg (fun k e => by obtain rfl := Option.some.inj e; exact ⟨Nat.zero_le _, (by intro x hx e; simp only [List.mem_cons, List.not_mem_nil, or_false] at hx; rcases hx with rfl | rfl; exact hneC2 e.symm; exact hneC1 e.symm), fun p hp _ => by rw [List.mem_singleton.1 hp]; exact fun h => h rfl⟩)
  replace hRb := hb
  clear hb hg
  obtain ⟨W, hWW⟩ : ∃ X, X = W2 := ⟨_, rfl⟩
  subst hWW
  refine ⟨_, rfl, fun a hf => ?_⟩
  rw [hbn] at hf
  refine sv_run (v := .int .u64 ((bq : Nat) : Int)) hf dd (fun a hf => ex_cv864 hf hbq rfl rfl) (fun a hf => ?_)
  refine sv_run (v := .int .u64 ((vq * 256 + bq : Nat) : Int)) hf dd (fun a hf => ex_or64 hf hvq hbq rfl rfl rfl) (fun a hf => ?_)
  refine go hf ?_
  intro a hf
  refine sv_add ((q + 1 : Nat) : Int) hf rfl rfl (by rw [wrap_in (by omega)]; rfl) dd (fun a hf => ?_)
  refine go hf ?_
  intro a hf
  have hac := be8_acc (u := u) hq8
  rw [← hvqe, ← hbqe] at hac
  rw [hac] at hf
  refine ⟨⟨q + 1, hf.sub (sub_cons rfl (sub_cons rfl (sub_cons rfl (sub_cons rfl (sub_cons rfl (sub_nil)))))), hX, by omega, hRb⟩, ?_⟩
  have h5 : a.eval (.tmp 43) = .int .i64 ((q + 1 : Nat) : Int) := hf.rel 43 _ rfl
  rw [h5, hm43]; simp only [intOf, Int.toNat_natCast]; omega
 ·
  refine gc hf ?_
  intro a hf
  refine cf hf hgo fun a hf => ?_
  refine go hf ?_
  intro a hf
  refine wp_exit ?_
  simp only [Exit.inBlock, Exit.then, ↓reduceIte]
  obtain rfl : q = 8 := by omega
  rw [show u / 2 ^ (64 - 8 * 8) = u from Nat.div_one u] at hf
  refine gc hf ?_
  intro a hf
  refine sv_run (v := .int .u64 (n % 18446744073709551616)) hf dd (fun a hf => ex_xor63b hf wn huq rfl rfl rfl) (fun a hf => ?_)
  refine sv_run (v := .int .i64 n) hf dd (fun a hf => ex_cv643 hf wn rfl rfl) (fun a hf => ?_)
  refine go hf ?_
  intro a hf
  refine sv_sc (cs' := [.int .i64 9, .int .i64 n, .string ⟨#[]⟩, .slice none 0 0, .slice none 0 0]) hf hX rfl rfl 0 rfl dd rfl info_int rfl [(C2, [.int .i64 9, .int .i64 n, .string ⟨#[]⟩, .slice none 0 0, .slice none 0 0]), (C1, [.int .i64 0, .int .i64 0, .string ⟨#[]⟩, .slice none 0 0, .slice none 0 0])] rfl (fun W hX hO => ?_)
  replace hRb := hRb.other hO hneC2
  clear hO
  refine go hf ?_
  intro a hf
  refine sv_lr hf hX rfl 0 rfl u29 info_val dd (fun a hf => ?_)
  refine sv_sr hf hX rfl rfl 1 rfl rfl info_val (ones_of rfl) [(C2, [.int .i64 9, .int .i64 n, .string ⟨#[]⟩, .slice none 0 0, .slice none 0 0]), (C1, [.int .i64 9, .int .i64 n, .string ⟨#[]⟩, .slice none 0 0, .slice none 0 0])] rfl (fun W hX hO => ?_)
  replace hRb := hRb.other hO hneC1
  clear hO
  refine go hf ?_
  intro a hf
  exact bodyPost_ret (res_cellV (c := 4) (C := C1) (cs := [.int .i64 9, .int .i64 n, .string ⟨#[]⟩, .slice none 0 0, .slice none 0 0]) (T := 29) rfl (hf.rel 4 _ rfl) (hX.get (i := 1) rfl) u29 info_val) hf.defers ⟨_, rfl, VAt.mk (by decide) wn (by decide) (LAt.nil _ _) (FAt.nil _ _), (by rw [List.length_cons, be8_len]; exact hRb), ⟨hX.low.os, hX.low.tape, hX.low.output, (hX.bas _ List.mem_cons_self).1, fun k hk hne => (hX.bas _ List.mem_cons_self).2 k hk (fun e => hne (by rw [e]))⟩⟩
theorem rd_K10 (n : Int) (wn : wfI n) (w : World) (R : Nat) (s : ByteArray) (p : Nat) (dp : Int) (post : List UInt8) (hs : s.size ≤ maxLen) (hd1 : 1 ≤ dp) (hd2 : dp ≤ 16) (hp : s.data.toList.drop p = (Tr.mk 10 n ⟨#[]⟩ .nil .nil).kb ++ post) (hRb : Box w R [.string s, .int .i64 (p : Int), .int .u8 0, .int .i64 0]) : Calls Tryz.prog 54 #[.pointer (some ⟨R, 0, none⟩), .int .i64 dp] w fun e w' => ∃ cs, e = .returned (.agg cs.toArray) ∧ VAt w' (fun k => w.heap.size ≤ k) (Tr.mk 10 n ⟨#[]⟩ .nil .nil) cs ∧ Box w' R [.string s, .int .i64 ((p + (Tr.mk 10 n ⟨#[]⟩ .nil .nil).kb.length : Nat) : Int), .int .u8 0, .int .i64 0] ∧ w.grownBy w' (some R) := by
 have hkb : (Tr.mk 10 n ⟨#[]⟩ .nil .nil).kb = (Tr.kB 10 :: Tr.be8 n) := rfl
 rw [hkb] at hp ⊢
 rw [List.cons_append] at hp
 obtain ⟨hb0, hp0⟩ := drop_one hp
 have hk0 : (((Tr.kB 10).toNat : Nat) : Int) = 10 := by decide
 obtain ⟨u, hun, hul, huq⟩ := un_nat wn
 refine cv2 Tryz.func54 rfl rfl rfl fun a hf => ?_
 have hX := Bx.start w
 clear hX
 have hX := Bx.bare w (fun k => k ≠ R)
 refine gc hf ?_
 intro a hf
 refine sv_alloc (zs := [.int .i64 0, .int .i64 0, .string ⟨#[]⟩, .slice none 0 0, .slice none 0 0]) hf hX zero_val dd (fun a C1 W hC hf hX hA => ?_)
 have hneC1 : R ≠ C1 := fun e => by have := hRb.lt; omega
 replace hRb := hRb.keep hA
 clear hC hA
 refine go hf ?_
 intro a hf
 refine sv_call hf fnOK_78 rfl (next_any R s hs p (Tr.kB 10) hb0 _ hRb) dd ?_
 rintro e W2 ⟨rfl, hb, hg⟩
 replace hX := hX.grown hg (fun k e => by obtain rfl := Option.some.inj e; exact ⟨Nat.zero_le _, (by intro x hx e; simp only [List.mem_cons, List.not_mem_nil, or_false] at hx; rcases hx with rfl; exact hneC1 e.symm), fun p hp _ => by rw [List.mem_singleton.1 hp]; exact fun h => h rfl⟩)
 replace hRb := hb
 clear hb hg
 obtain ⟨W, hWW⟩ : ∃ X, X = W2 := ⟨_, rfl⟩
 subst hWW
 refine ⟨_, rfl, fun a hf => ?_⟩
 refine sv_run (v := .int .i64 (((Tr.kB 10).toNat : Nat) : Int)) hf dd (fun a hf => ex_cv83 hf rfl rfl) (fun a hf => ?_)
 refine go hf ?_
 intro a hf
 rw [hk0] at hf
 first | refine gc hf ?_ | refine go hf ?_
 intro a hf
 refine sv_lm hf rfl (hRb.cell 3 _ rfl) Tryz.underlying32 rfl dd (fun a hf => ?_)
 refine go hf ?_
 intro a hf
 refine sv_cmp hf rfl rfl false (congrArg some (decide_eq_false (by omega))) dd (fun a hf => ?_)
 refine go hf ?_
 intro a hf
 refine sv_build (cs := [.int .i64 10, .int .i64 0, .string ⟨#[]⟩, .slice none 0 0, .slice none 0 0]) hf rfl (by kernel_rfl) dd (fun a hf => ?_)
 refine sv_alloc (zs := [.int .i64 0, .int .i64 0, .string ⟨#[]⟩, .slice none 0 0, .slice none 0 0]) hf hX zero_val dd (fun a C2 W hC hf hX hA => ?_)
 have hneC2 : R ≠ C2 := fun e => by have := hRb.lt; omega
 replace hRb := hRb.keep hA
 clear hC hA
 refine sv_sr hf hX rfl rfl 0 rfl rfl info_val (ones_of rfl) [(C2, [.int .i64 10, .int .i64 0, .string ⟨#[]⟩, .slice none 0 0, .slice none 0 0]), (C1, [.int .i64 0, .int .i64 0, .string ⟨#[]⟩, .slice none 0 0, .slice none 0 0])] rfl (fun W hX hO => ?_)
 replace hRb := hRb.other hO hneC2
 clear hO
 refine go hf ?_
 intro a hf
 refine wp_block ?_
 refine gc hf ?_
 intro a hf
 have hu0 : u / 2 ^ (64 - 8 * 0) = 0 := Nat.div_eq_of_lt (by omega)
 have hf0 := hf.sub (env' := [(0, .pointer (some ⟨R, 0, none⟩)), (4, .pointer (some ⟨C1, 0, none⟩)), (6, .pointer (some ⟨C2, 0, none⟩)), (7, .int .u64 ((u / 2 ^ (64 - 8 * 0) : Nat) : Int)), (43, .int .i64 ((0 : Nat) : Int))]) (by rw [hu0]; exact sub_cons rfl (sub_cons rfl (sub_cons rfl (sub_cons rfl (sub_cons rfl (sub_nil))))))
 refine wp_block (wp_loop (fun a X => ∃ (q : Nat), FrV 94 [(0, .pointer (some ⟨R, 0, none⟩)), (4, .pointer (some ⟨C1, 0, none⟩)), (6, .pointer (some ⟨C2, 0, none⟩)), (7, .int .u64 ((u / 2 ^ (64 - 8 * q) : Nat) : Int)), (43, .int .i64 (q : Int))] a ∧ Bx ⟨bare w, [(w, fun k => k ≠ R)]⟩ [(C2, [.int .i64 10, .int .i64 0, .string ⟨#[]⟩, .slice none 0 0, .slice none 0 0]), (C1, [.int .i64 0, .int .i64 0, .string ⟨#[]⟩, .slice none 0 0, .slice none 0 0])] X ∧ q ≤ 8 ∧ Box X R [.string s, .int .i64 ((p + 1 + q : Nat) : Int), .int .u8 0, .int .i64 0]) (fun a _ => 8 - (intOf (a.eval (.tmp 43))).toNat) ⟨0, hf0, hX, Nat.zero_le _, hRb⟩ ?_)
 clear hf hX hRb hf0
 rintro a W ⟨q, hf, hX, hq, hRb⟩
 have hm43 : a.eval (.tmp 43) = .int .i64 (q : Int) := hf.rel 43 _ rfl
 rcases Decidable.em ((q : Int) < 8) with hgo | hgo
 ·
  refine gc hf ?_
  intro a hf
  refine ct hf hgo fun a hf => ?_
  refine go hf ?_
  intro a hf
  refine wp_block ?_
  have hq8 : q < 8 := by omega
  obtain ⟨vq, hvqe⟩ : ∃ v, v = u / 2 ^ (64 - 8 * q) := ⟨_, rfl⟩
  have hvq : vq < 72057594037927936 := by rw [hvqe]; exact be8_small hul hq8
  obtain ⟨bq, hbqe⟩ : ∃ b, b = u / 2 ^ (56 - 8 * q) % 256 := ⟨_, rfl⟩
  have hbq : bq < 256 := by omega
  have hby : s.data.toList[p + 1 + q]? = some (UInt8.ofNat bq) := by rw [drop_at hp0 q, List.getElem?_append_left (by rw [be8_len]; exact hq8), be8_at huq hq8, hbqe]
  have hbn : (((UInt8.ofNat bq).toNat : Nat) : Int) = ((bq : Nat) : Int) := by rw [toNat_of]; omega
  rw [← hvqe] at hf
  refine gc hf ?_
  intro a hf
  refine sv_run (v := .int .u64 ((vq * 256 : Nat) : Int)) hf dd (fun a hf => ex_shl8 hf hvq rfl rfl rfl) (fun a hf => ?_)
  refine go hf ?_
  intro a hf
  refine sv_call hf fnOK_78 rfl (next_any R s hs (p + 1 + q) (UInt8.ofNat bq) hby _ hRb) dd ?_
  rintro e W2 ⟨rfl, hb, hg⟩
  replace hX := hX.grown hg (fun k e => by obtain rfl := Option.some.inj e; exact ⟨Nat.zero_le _, (by intro x hx e; simp only [List.mem_cons, List.not_mem_nil, or_false] at hx; rcases hx with rfl | rfl; exact hneC2 e.symm; exact hneC1 e.symm), fun p hp _ => by rw [List.mem_singleton.1 hp]; exact fun h => h rfl⟩)
  replace hRb := hb
  clear hb hg
  obtain ⟨W, hWW⟩ : ∃ X, X = W2 := ⟨_, rfl⟩
  subst hWW
  refine ⟨_, rfl, fun a hf => ?_⟩
  rw [hbn] at hf
  refine sv_run (v := .int .u64 ((bq : Nat) : Int)) hf dd (fun a hf => ex_cv864 hf hbq rfl rfl) (fun a hf => ?_)
  refine sv_run (v := .int .u64 ((vq * 256 + bq : Nat) : Int)) hf dd (fun a hf => ex_or64 hf hvq hbq rfl rfl rfl) (fun a hf => ?_)
  refine go hf ?_
  intro a hf
  refine sv_add ((q + 1 : Nat) : Int) hf rfl rfl (by rw [wrap_in (by omega)]; rfl) dd (fun a hf => ?_)
  refine go hf ?_
  intro a hf
  have hac := be8_acc (u := u) hq8
  rw [← hvqe, ← hbqe] at hac
  rw [hac] at hf
  refine ⟨⟨q + 1, hf.sub (sub_cons rfl (sub_cons rfl (sub_cons rfl (sub_cons rfl (sub_cons rfl (sub_nil)))))), hX, by omega, hRb⟩, ?_⟩
  have h5 : a.eval (.tmp 43) = .int .i64 ((q + 1 : Nat) : Int) := hf.rel 43 _ rfl
  rw [h5, hm43]; simp only [intOf, Int.toNat_natCast]; omega
 ·
  refine gc hf ?_
  intro a hf
  refine cf hf hgo fun a hf => ?_
  refine go hf ?_
  intro a hf
  refine wp_exit ?_
  simp only [Exit.inBlock, Exit.then, ↓reduceIte]
  obtain rfl : q = 8 := by omega
  rw [show u / 2 ^ (64 - 8 * 8) = u from Nat.div_one u] at hf
  refine gc hf ?_
  intro a hf
  refine sv_run (v := .int .u64 (n % 18446744073709551616)) hf dd (fun a hf => ex_xor63b hf wn huq rfl rfl rfl) (fun a hf => ?_)
  refine sv_run (v := .int .i64 n) hf dd (fun a hf => ex_cv643 hf wn rfl rfl) (fun a hf => ?_)
  refine go hf ?_
  intro a hf
  refine sv_sc (cs' := [.int .i64 10, .int .i64 n, .string ⟨#[]⟩, .slice none 0 0, .slice none 0 0]) hf hX rfl rfl 0 rfl dd rfl info_int rfl [(C2, [.int .i64 10, .int .i64 n, .string ⟨#[]⟩, .slice none 0 0, .slice none 0 0]), (C1, [.int .i64 0, .int .i64 0, .string ⟨#[]⟩, .slice none 0 0, .slice none 0 0])] rfl (fun W hX hO => ?_)
  replace hRb := hRb.other hO hneC2
  clear hO
  refine go hf ?_
  intro a hf
  refine sv_lr hf hX rfl 0 rfl u29 info_val dd (fun a hf => ?_)
  refine sv_sr hf hX rfl rfl 1 rfl rfl info_val (ones_of rfl) [(C2, [.int .i64 10, .int .i64 n, .string ⟨#[]⟩, .slice none 0 0, .slice none 0 0]), (C1, [.int .i64 10, .int .i64 n, .string ⟨#[]⟩, .slice none 0 0, .slice none 0 0])] rfl (fun W hX hO => ?_)
  replace hRb := hRb.other hO hneC1
  clear hO
  refine go hf ?_
  intro a hf
  exact bodyPost_ret (res_cellV (c := 4) (C := C1) (cs := [.int .i64 10, .int .i64 n, .string ⟨#[]⟩, .slice none 0 0, .slice none 0 0]) (T := 29) rfl (hf.rel 4 _ rfl) (hX.get (i := 1) rfl) u29 info_val) hf.defers ⟨_, rfl, VAt.mk (by decide) wn (by decide) (LAt.nil _ _) (FAt.nil _ _), (by rw [List.length_cons, be8_len]; exact hRb), ⟨hX.low.os, hX.low.tape, hX.low.output, (hX.bas _ List.mem_cons_self).1, fun k hk hne => (hX.bas _ List.mem_cons_self).2 k hk (fun e => hne (by rw [e]))⟩⟩
theorem rd_K4 (x : ByteArray) (hx : x.size ≤ 100000000) (w : World) (R : Nat) (s : ByteArray) (p : Nat) (dp : Int) (post : List UInt8) (hs : s.size ≤ maxLen) (hd1 : 1 ≤ dp) (hd2 : dp ≤ 16) (hp : s.data.toList.drop p = (Tr.mk 4 0 x .nil .nil).kb ++ post) (hRb : Box w R [.string s, .int .i64 (p : Int), .int .u8 0, .int .i64 0]) : Calls Tryz.prog 54 #[.pointer (some ⟨R, 0, none⟩), .int .i64 dp] w fun e w' => ∃ cs, e = .returned (.agg cs.toArray) ∧ VAt w' (fun k => w.heap.size ≤ k) (Tr.mk 4 0 x .nil .nil) cs ∧ Box w' R [.string s, .int .i64 ((p + (Tr.mk 4 0 x .nil .nil).kb.length : Nat) : Int), .int .u8 0, .int .i64 0] ∧ w.grownBy w' (some R) := by
 have hkb : (Tr.mk 4 0 x .nil .nil).kb = (Tr.kB 4 :: (x.data.toList.flatMap escC ++ [0, 0])) := rfl
 rw [hkb] at hp ⊢
 rw [List.cons_append] at hp
 obtain ⟨hb0, hp0⟩ := drop_one hp
 have hk0 : (((Tr.kB 4).toNat : Nat) : Int) = 4 := by decide
 rw [List.append_assoc] at hp0
 have hmk : mkS x.data.toList = x := by obtain ⟨⟨l⟩⟩ := x; rfl
 refine cv2 Tryz.func54 rfl rfl rfl fun a hf => ?_
 have hX := Bx.start w
 clear hX
 have hX := Bx.bare w (fun k => k ≠ R)
 refine gc hf ?_
 intro a hf
 refine sv_alloc (zs := [.int .i64 0, .int .i64 0, .string ⟨#[]⟩, .slice none 0 0, .slice none 0 0]) hf hX zero_val dd (fun a C1 W hC hf hX hA => ?_)
 have hneC1 : R ≠ C1 := fun e => by have := hRb.lt; omega
 replace hRb := hRb.keep hA
 clear hC hA
 refine go hf ?_
 intro a hf
 refine sv_call hf fnOK_78 rfl (next_any R s hs p (Tr.kB 4) hb0 _ hRb) dd ?_
 rintro e W2 ⟨rfl, hb, hg⟩
 replace hX := hX.grown hg (fun k e => by obtain rfl := Option.some.inj e; exact ⟨Nat.zero_le _, (by intro x hx e; simp only [List.mem_cons, List.not_mem_nil, or_false] at hx; rcases hx with rfl; exact hneC1 e.symm), fun p hp _ => by rw [List.mem_singleton.1 hp]; exact fun h => h rfl⟩)
 replace hRb := hb
 clear hb hg
 obtain ⟨W, hWW⟩ : ∃ X, X = W2 := ⟨_, rfl⟩
 subst hWW
 refine ⟨_, rfl, fun a hf => ?_⟩
 refine sv_run (v := .int .i64 (((Tr.kB 4).toNat : Nat) : Int)) hf dd (fun a hf => ex_cv83 hf rfl rfl) (fun a hf => ?_)
 refine go hf ?_
 intro a hf
 rw [hk0] at hf
 first | refine gc hf ?_ | refine go hf ?_
 intro a hf
 refine sv_lm hf rfl (hRb.cell 3 _ rfl) Tryz.underlying32 rfl dd (fun a hf => ?_)
 refine go hf ?_
 intro a hf
 refine sv_cmp hf rfl rfl false (congrArg some (decide_eq_false (by omega))) dd (fun a hf => ?_)
 refine go hf ?_
 intro a hf
 refine sv_build (cs := [.int .i64 4, .int .i64 0, .string ⟨#[]⟩, .slice none 0 0, .slice none 0 0]) hf rfl (by kernel_rfl) dd (fun a hf => ?_)
 refine sv_alloc (zs := [.int .i64 0, .int .i64 0, .string ⟨#[]⟩, .slice none 0 0, .slice none 0 0]) hf hX zero_val dd (fun a C2 W hC hf hX hA => ?_)
 have hneC2 : R ≠ C2 := fun e => by have := hRb.lt; omega
 replace hRb := hRb.keep hA
 clear hC hA
 refine sv_sr hf hX rfl rfl 0 rfl rfl info_val (ones_of rfl) [(C2, [.int .i64 4, .int .i64 0, .string ⟨#[]⟩, .slice none 0 0, .slice none 0 0]), (C1, [.int .i64 0, .int .i64 0, .string ⟨#[]⟩, .slice none 0 0, .slice none 0 0])] rfl (fun W hX hO => ?_)
 replace hRb := hRb.other hO hneC2
 clear hO
 refine go hf ?_
 intro a hf
 refine wp_block ?_
 refine gc hf ?_
 intro a hf
 refine sv_call hf fnOK_79 rfl (ktext_any R s hs (p + 1) x.data.toList post (by rw [size_list]; exact hx) hp0 _ hRb) dd ?_
 rintro e W2 ⟨rfl, hb, hg⟩
 replace hX := hX.grown hg (fun k e => by obtain rfl := Option.some.inj e; exact ⟨Nat.zero_le _, (by intro x hx e; simp only [List.mem_cons, List.not_mem_nil, or_false] at hx; rcases hx with rfl | rfl; exact hneC2 e.symm; exact hneC1 e.symm), fun p hp _ => by rw [List.mem_singleton.1 hp]; exact fun h => h rfl⟩)
 replace hRb := hb
 clear hb hg
 obtain ⟨W, hWW⟩ : ∃ X, X = W2 := ⟨_, rfl⟩
 subst hWW
 refine ⟨_, rfl, fun a hf => ?_⟩
 rw [hmk] at hf
 refine go hf ?_
 intro a hf
 refine sv_sc (cs' := [.int .i64 4, .int .i64 0, .string x, .slice none 0 0, .slice none 0 0]) hf hX rfl rfl 0 rfl dd rfl info_str rfl [(C2, [.int .i64 4, .int .i64 0, .string x, .slice none 0 0, .slice none 0 0]), (C1, [.int .i64 0, .int .i64 0, .string ⟨#[]⟩, .slice none 0 0, .slice none 0 0])] rfl (fun W hX hO => ?_)
 replace hRb := hRb.other hO hneC2
 clear hO
 refine go hf ?_
 intro a hf
 refine sv_lr hf hX rfl 0 rfl u29 info_val dd (fun a hf => ?_)
 refine sv_sr hf hX rfl rfl 1 rfl rfl info_val (ones_of rfl) [(C2, [.int .i64 4, .int .i64 0, .string x, .slice none 0 0, .slice none 0 0]), (C1, [.int .i64 4, .int .i64 0, .string x, .slice none 0 0, .slice none 0 0])] rfl (fun W hX hO => ?_)
 replace hRb := hRb.other hO hneC1
 clear hO
 refine go hf ?_
 intro a hf
 exact bodyPost_ret (res_cellV (c := 4) (C := C1) (cs := [.int .i64 4, .int .i64 0, .string x, .slice none 0 0, .slice none 0 0]) (T := 29) rfl (hf.rel 4 _ rfl) (hX.get (i := 1) rfl) u29 info_val) hf.defers ⟨_, rfl, VAt.mk (by decide) (by decide) (by unfold maxLen; omega) (LAt.nil _ _) (FAt.nil _ _), (by rw [List.length_cons, List.length_append]; show Box _ _ [.string s, .int .i64 ((p + ((x.data.toList.flatMap escC).length + 2 + 1) : Nat) : Int), .int .u8 0, .int .i64 0]; rw [show p + ((x.data.toList.flatMap escC).length + 2 + 1) = p + 1 + (x.data.toList.flatMap escC).length + 2 by omega]; exact hRb), ⟨hX.low.os, hX.low.tape, hX.low.output, (hX.bas _ List.mem_cons_self).1, fun k hk hne => (hX.bas _ List.mem_cons_self).2 k hk (fun e => hne (by rw [e]))⟩⟩
theorem rd_K7 (x : ByteArray) (hx : x.size ≤ 100000000) (w : World) (R : Nat) (s : ByteArray) (p : Nat) (dp : Int) (post : List UInt8) (hs : s.size ≤ maxLen) (hd1 : 1 ≤ dp) (hd2 : dp ≤ 16) (hp : s.data.toList.drop p = (Tr.mk 7 0 x .nil .nil).kb ++ post) (hRb : Box w R [.string s, .int .i64 (p : Int), .int .u8 0, .int .i64 0]) : Calls Tryz.prog 54 #[.pointer (some ⟨R, 0, none⟩), .int .i64 dp] w fun e w' => ∃ cs, e = .returned (.agg cs.toArray) ∧ VAt w' (fun k => w.heap.size ≤ k) (Tr.mk 7 0 x .nil .nil) cs ∧ Box w' R [.string s, .int .i64 ((p + (Tr.mk 7 0 x .nil .nil).kb.length : Nat) : Int), .int .u8 0, .int .i64 0] ∧ w.grownBy w' (some R) := by
 have hkb : (Tr.mk 7 0 x .nil .nil).kb = (Tr.kB 7 :: (x.data.toList.flatMap escC ++ [0, 0])) := rfl
 rw [hkb] at hp ⊢
 rw [List.cons_append] at hp
 obtain ⟨hb0, hp0⟩ := drop_one hp
 have hk0 : (((Tr.kB 7).toNat : Nat) : Int) = 7 := by decide
 rw [List.append_assoc] at hp0
 have hmk : mkS x.data.toList = x := by obtain ⟨⟨l⟩⟩ := x; rfl
 refine cv2 Tryz.func54 rfl rfl rfl fun a hf => ?_
 have hX := Bx.start w
 clear hX
 have hX := Bx.bare w (fun k => k ≠ R)
 refine gc hf ?_
 intro a hf
 refine sv_alloc (zs := [.int .i64 0, .int .i64 0, .string ⟨#[]⟩, .slice none 0 0, .slice none 0 0]) hf hX zero_val dd (fun a C1 W hC hf hX hA => ?_)
 have hneC1 : R ≠ C1 := fun e => by have := hRb.lt; omega
 replace hRb := hRb.keep hA
 clear hC hA
 refine go hf ?_
 intro a hf
 refine sv_call hf fnOK_78 rfl (next_any R s hs p (Tr.kB 7) hb0 _ hRb) dd ?_
 rintro e W2 ⟨rfl, hb, hg⟩
 replace hX := hX.grown hg (fun k e => by obtain rfl := Option.some.inj e; exact ⟨Nat.zero_le _, (by intro x hx e; simp only [List.mem_cons, List.not_mem_nil, or_false] at hx; rcases hx with rfl; exact hneC1 e.symm), fun p hp _ => by rw [List.mem_singleton.1 hp]; exact fun h => h rfl⟩)
 replace hRb := hb
 clear hb hg
 obtain ⟨W, hWW⟩ : ∃ X, X = W2 := ⟨_, rfl⟩
 subst hWW
 refine ⟨_, rfl, fun a hf => ?_⟩
 refine sv_run (v := .int .i64 (((Tr.kB 7).toNat : Nat) : Int)) hf dd (fun a hf => ex_cv83 hf rfl rfl) (fun a hf => ?_)
 refine go hf ?_
 intro a hf
 rw [hk0] at hf
 first | refine gc hf ?_ | refine go hf ?_
 intro a hf
 refine sv_lm hf rfl (hRb.cell 3 _ rfl) Tryz.underlying32 rfl dd (fun a hf => ?_)
 refine go hf ?_
 intro a hf
 refine sv_cmp hf rfl rfl false (congrArg some (decide_eq_false (by omega))) dd (fun a hf => ?_)
 refine go hf ?_
 intro a hf
 refine sv_build (cs := [.int .i64 7, .int .i64 0, .string ⟨#[]⟩, .slice none 0 0, .slice none 0 0]) hf rfl (by kernel_rfl) dd (fun a hf => ?_)
 refine sv_alloc (zs := [.int .i64 0, .int .i64 0, .string ⟨#[]⟩, .slice none 0 0, .slice none 0 0]) hf hX zero_val dd (fun a C2 W hC hf hX hA => ?_)
 have hneC2 : R ≠ C2 := fun e => by have := hRb.lt; omega
 replace hRb := hRb.keep hA
 clear hC hA
 refine sv_sr hf hX rfl rfl 0 rfl rfl info_val (ones_of rfl) [(C2, [.int .i64 7, .int .i64 0, .string ⟨#[]⟩, .slice none 0 0, .slice none 0 0]), (C1, [.int .i64 0, .int .i64 0, .string ⟨#[]⟩, .slice none 0 0, .slice none 0 0])] rfl (fun W hX hO => ?_)
 replace hRb := hRb.other hO hneC2
 clear hO
 refine go hf ?_
 intro a hf
 refine wp_block ?_
 refine gc hf ?_
 intro a hf
 refine sv_call hf fnOK_79 rfl (ktext_any R s hs (p + 1) x.data.toList post (by rw [size_list]; exact hx) hp0 _ hRb) dd ?_
 rintro e W2 ⟨rfl, hb, hg⟩
 replace hX := hX.grown hg (fun k e => by obtain rfl := Option.some.inj e; exact ⟨Nat.zero_le _, (by intro x hx e; simp only [List.mem_cons, List.not_mem_nil, or_false] at hx; rcases hx with rfl | rfl; exact hneC2 e.symm; exact hneC1 e.symm), fun p hp _ => by rw [List.mem_singleton.1 hp]; exact fun h => h rfl⟩)
 replace hRb := hb
 clear hb hg
 obtain ⟨W, hWW⟩ : ∃ X, X = W2 := ⟨_, rfl⟩
 subst hWW
 refine ⟨_, rfl, fun a hf => ?_⟩
 rw [hmk] at hf
 refine go hf ?_
 intro a hf
 refine sv_sc (cs' := [.int .i64 7, .int .i64 0, .string x, .slice none 0 0, .slice none 0 0]) hf hX rfl rfl 0 rfl dd rfl info_str rfl [(C2, [.int .i64 7, .int .i64 0, .string x, .slice none 0 0, .slice none 0 0]), (C1, [.int .i64 0, .int .i64 0, .string ⟨#[]⟩, .slice none 0 0, .slice none 0 0])] rfl (fun W hX hO => ?_)
 replace hRb := hRb.other hO hneC2
 clear hO
 refine go hf ?_
 intro a hf
 refine sv_lr hf hX rfl 0 rfl u29 info_val dd (fun a hf => ?_)
 refine sv_sr hf hX rfl rfl 1 rfl rfl info_val (ones_of rfl) [(C2, [.int .i64 7, .int .i64 0, .string x, .slice none 0 0, .slice none 0 0]), (C1, [.int .i64 7, .int .i64 0, .string x, .slice none 0 0, .slice none 0 0])] rfl (fun W hX hO => ?_)
 replace hRb := hRb.other hO hneC1
 clear hO
 refine go hf ?_
 intro a hf
 exact bodyPost_ret (res_cellV (c := 4) (C := C1) (cs := [.int .i64 7, .int .i64 0, .string x, .slice none 0 0, .slice none 0 0]) (T := 29) rfl (hf.rel 4 _ rfl) (hX.get (i := 1) rfl) u29 info_val) hf.defers ⟨_, rfl, VAt.mk (by decide) (by decide) (by unfold maxLen; omega) (LAt.nil _ _) (FAt.nil _ _), (by rw [List.length_cons, List.length_append]; show Box _ _ [.string s, .int .i64 ((p + ((x.data.toList.flatMap escC).length + 2 + 1) : Nat) : Int), .int .u8 0, .int .i64 0]; rw [show p + ((x.data.toList.flatMap escC).length + 2 + 1) = p + 1 + (x.data.toList.flatMap escC).length + 2 by omega]; exact hRb), ⟨hX.low.os, hX.low.tape, hX.low.output, (hX.bas _ List.mem_cons_self).1, fun k hk hne => (hX.bas _ List.mem_cons_self).2 k hk (fun e => hne (by rw [e]))⟩⟩
theorem rd_K8 (x : ByteArray) (hx : x.size ≤ 100000000) (w : World) (R : Nat) (s : ByteArray) (p : Nat) (dp : Int) (post : List UInt8) (hs : s.size ≤ maxLen) (hd1 : 1 ≤ dp) (hd2 : dp ≤ 16) (hp : s.data.toList.drop p = (Tr.mk 8 0 x .nil .nil).kb ++ post) (hRb : Box w R [.string s, .int .i64 (p : Int), .int .u8 0, .int .i64 0]) : Calls Tryz.prog 54 #[.pointer (some ⟨R, 0, none⟩), .int .i64 dp] w fun e w' => ∃ cs, e = .returned (.agg cs.toArray) ∧ VAt w' (fun k => w.heap.size ≤ k) (Tr.mk 8 0 x .nil .nil) cs ∧ Box w' R [.string s, .int .i64 ((p + (Tr.mk 8 0 x .nil .nil).kb.length : Nat) : Int), .int .u8 0, .int .i64 0] ∧ w.grownBy w' (some R) := by
 have hkb : (Tr.mk 8 0 x .nil .nil).kb = (Tr.kB 8 :: (x.data.toList.flatMap escC ++ [0, 0])) := rfl
 rw [hkb] at hp ⊢
 rw [List.cons_append] at hp
 obtain ⟨hb0, hp0⟩ := drop_one hp
 have hk0 : (((Tr.kB 8).toNat : Nat) : Int) = 8 := by decide
 rw [List.append_assoc] at hp0
 have hmk : mkS x.data.toList = x := by obtain ⟨⟨l⟩⟩ := x; rfl
 refine cv2 Tryz.func54 rfl rfl rfl fun a hf => ?_
 have hX := Bx.start w
 clear hX
 have hX := Bx.bare w (fun k => k ≠ R)
 refine gc hf ?_
 intro a hf
 refine sv_alloc (zs := [.int .i64 0, .int .i64 0, .string ⟨#[]⟩, .slice none 0 0, .slice none 0 0]) hf hX zero_val dd (fun a C1 W hC hf hX hA => ?_)
 have hneC1 : R ≠ C1 := fun e => by have := hRb.lt; omega
 replace hRb := hRb.keep hA
 clear hC hA
 refine go hf ?_
 intro a hf
 refine sv_call hf fnOK_78 rfl (next_any R s hs p (Tr.kB 8) hb0 _ hRb) dd ?_
 rintro e W2 ⟨rfl, hb, hg⟩
 replace hX := hX.grown hg (fun k e => by obtain rfl := Option.some.inj e; exact ⟨Nat.zero_le _, (by intro x hx e; simp only [List.mem_cons, List.not_mem_nil, or_false] at hx; rcases hx with rfl; exact hneC1 e.symm), fun p hp _ => by rw [List.mem_singleton.1 hp]; exact fun h => h rfl⟩)
 replace hRb := hb
 clear hb hg
 obtain ⟨W, hWW⟩ : ∃ X, X = W2 := ⟨_, rfl⟩
 subst hWW
 refine ⟨_, rfl, fun a hf => ?_⟩
 refine sv_run (v := .int .i64 (((Tr.kB 8).toNat : Nat) : Int)) hf dd (fun a hf => ex_cv83 hf rfl rfl) (fun a hf => ?_)
 refine go hf ?_
 intro a hf
 rw [hk0] at hf
 first | refine gc hf ?_ | refine go hf ?_
 intro a hf
 refine sv_lm hf rfl (hRb.cell 3 _ rfl) Tryz.underlying32 rfl dd (fun a hf => ?_)
 refine go hf ?_
 intro a hf
 refine sv_cmp hf rfl rfl false (congrArg some (decide_eq_false (by omega))) dd (fun a hf => ?_)
 refine go hf ?_
 intro a hf
 refine sv_build (cs := [.int .i64 8, .int .i64 0, .string ⟨#[]⟩, .slice none 0 0, .slice none 0 0]) hf rfl (by kernel_rfl) dd (fun a hf => ?_)
 refine sv_alloc (zs := [.int .i64 0, .int .i64 0, .string ⟨#[]⟩, .slice none 0 0, .slice none 0 0]) hf hX zero_val dd (fun a C2 W hC hf hX hA => ?_)
 have hneC2 : R ≠ C2 := fun e => by have := hRb.lt; omega
 replace hRb := hRb.keep hA
 clear hC hA
 refine sv_sr hf hX rfl rfl 0 rfl rfl info_val (ones_of rfl) [(C2, [.int .i64 8, .int .i64 0, .string ⟨#[]⟩, .slice none 0 0, .slice none 0 0]), (C1, [.int .i64 0, .int .i64 0, .string ⟨#[]⟩, .slice none 0 0, .slice none 0 0])] rfl (fun W hX hO => ?_)
 replace hRb := hRb.other hO hneC2
 clear hO
 refine go hf ?_
 intro a hf
 refine wp_block ?_
 refine gc hf ?_
 intro a hf
 refine sv_call hf fnOK_79 rfl (ktext_any R s hs (p + 1) x.data.toList post (by rw [size_list]; exact hx) hp0 _ hRb) dd ?_
 rintro e W2 ⟨rfl, hb, hg⟩
 replace hX := hX.grown hg (fun k e => by obtain rfl := Option.some.inj e; exact ⟨Nat.zero_le _, (by intro x hx e; simp only [List.mem_cons, List.not_mem_nil, or_false] at hx; rcases hx with rfl | rfl; exact hneC2 e.symm; exact hneC1 e.symm), fun p hp _ => by rw [List.mem_singleton.1 hp]; exact fun h => h rfl⟩)
 replace hRb := hb
 clear hb hg
 obtain ⟨W, hWW⟩ : ∃ X, X = W2 := ⟨_, rfl⟩
 subst hWW
 refine ⟨_, rfl, fun a hf => ?_⟩
 rw [hmk] at hf
 refine go hf ?_
 intro a hf
 refine sv_sc (cs' := [.int .i64 8, .int .i64 0, .string x, .slice none 0 0, .slice none 0 0]) hf hX rfl rfl 0 rfl dd rfl info_str rfl [(C2, [.int .i64 8, .int .i64 0, .string x, .slice none 0 0, .slice none 0 0]), (C1, [.int .i64 0, .int .i64 0, .string ⟨#[]⟩, .slice none 0 0, .slice none 0 0])] rfl (fun W hX hO => ?_)
 replace hRb := hRb.other hO hneC2
 clear hO
 refine go hf ?_
 intro a hf
 refine sv_lr hf hX rfl 0 rfl u29 info_val dd (fun a hf => ?_)
 refine sv_sr hf hX rfl rfl 1 rfl rfl info_val (ones_of rfl) [(C2, [.int .i64 8, .int .i64 0, .string x, .slice none 0 0, .slice none 0 0]), (C1, [.int .i64 8, .int .i64 0, .string x, .slice none 0 0, .slice none 0 0])] rfl (fun W hX hO => ?_)
 replace hRb := hRb.other hO hneC1
 clear hO
 refine go hf ?_
 intro a hf
 exact bodyPost_ret (res_cellV (c := 4) (C := C1) (cs := [.int .i64 8, .int .i64 0, .string x, .slice none 0 0, .slice none 0 0]) (T := 29) rfl (hf.rel 4 _ rfl) (hX.get (i := 1) rfl) u29 info_val) hf.defers ⟨_, rfl, VAt.mk (by decide) (by decide) (by unfold maxLen; omega) (LAt.nil _ _) (FAt.nil _ _), (by rw [List.length_cons, List.length_append]; show Box _ _ [.string s, .int .i64 ((p + ((x.data.toList.flatMap escC).length + 2 + 1) : Nat) : Int), .int .u8 0, .int .i64 0]; rw [show p + ((x.data.toList.flatMap escC).length + 2 + 1) = p + 1 + (x.data.toList.flatMap escC).length + 2 by omega]; exact hRb), ⟨hX.low.os, hX.low.tape, hX.low.output, (hX.bas _ List.mem_cons_self).1, fun k hk hne => (hX.bas _ List.mem_cons_self).2 k hk (fun e => hne (by rw [e]))⟩⟩
section
variable {α : Type} {E : World → (Nat → Prop) → α → List Value → Prop} {e : TypeId} {k B : Nat} {N : Nat → Prop}
def EK (E : World → (Nat → Prop) → α → List Value → Prop) : Prop := ∀ (W W' : World) (F G : Nat → Prop) (p : α) (cs : List Value), E W F p cs → W.heap.size ≤ W'.heap.size → (∀ x, F x → x < W.heap.size → W'.heap[x]? = W.heap[x]?) → (∀ x, F x → x < W.heap.size → G x) → E W' G p cs
structure RowE (E : World → (Nat → Prop) → α → List Value → Prop) (e : TypeId) (k B : Nat) (N : Nat → Prop) (W : World) (v : Value) (es : List α) : Prop where
 ex : ∃ (css : List (List Value)) (F : Nat → Prop), css.length = es.length ∧ (∀ (j : Nat) p cs, es[j]? = some p → css[j]? = some cs → E W F p cs ∧ cs.length = k) ∧ W.ownsRow B e k v es.length css.flatten ∧ ∀ x, F x → B ≤ x ∧ x < W.heap.size ∧ v.ownBlock ≠ some x ∧ ¬ N x
 own : ∀ x, v.ownBlock = some x → B ≤ x ∧ x < W.heap.size ∧ ¬ N x
theorem RowE.nil (W : World) : RowE E e k B N W (.slice none 0 0) [] := ⟨⟨[], fun _ => False, rfl, fun j p cs h _ => by simp at h, World.ownsRow_nil _ _ _ _, fun x h => h.elim⟩, fun x h => by cases h⟩
theorem RowE.keep {W W' : World} {v : Value} {es : List α} (hE : EK E) (h : RowE E e k B N W v es) (hs : W.heap.size ≤ W'.heap.size) (hk : ∀ x, B ≤ x → x < W.heap.size → ¬ N x → W'.heap[x]? = W.heap[x]?) : RowE E e k B N W' v es := by
 obtain ⟨⟨css, F, h1, h2, h3, h4⟩, h5⟩ := h
 refine ⟨⟨css, F, h1, fun j p cs hp hc => ⟨hE W W' F F p cs (h2 j p cs hp hc).1 hs (fun x hx _ => hk x (h4 x hx).1 (h4 x hx).2.1 (h4 x hx).2.2.2) (fun _ h _ => h), (h2 j p cs hp hc).2⟩, ⟨h3.1, ?_⟩, fun x hx => ⟨(h4 x hx).1, Nat.lt_of_lt_of_le (h4 x hx).2.1 hs, (h4 x hx).2.2⟩⟩, fun x hx => ⟨(h5 x hx).1, Nat.lt_of_lt_of_le (h5 x hx).2.1 hs, (h5 x hx).2.2⟩⟩
 rcases h3.2 with h | ⟨g, cap, cur, e1, e2, e3, e4⟩
 ·exact .inl h
 ·subst e1
  exact .inr ⟨g, cap, cur, rfl, e2, (hk g (h5 g rfl).1 (h5 g rfl).2.1 (h5 g rfl).2.2).trans e3, e4⟩
theorem RowE.below {W W' : World} {v : Value} {es : List α} (hE : EK E) (h : RowE E e k B N W v es) (hb : Below W.heap.size W W') : RowE E e k B N W' v es := h.keep hE hb.size (fun x _ hl _ => hb.block x hl)
theorem RowE.only {W W' : World} {v : Value} {es : List α} {c : Nat} (hE : EK E) (h : RowE E e k B N W v es) (ho : Only W W' c) (hc : N c) : RowE E e k B N W' v es := h.keep hE (Nat.le_of_eq ho.size.symm) (fun x _ _ hn => ho.heap x (fun he => hn (he ▸ hc)))
theorem RowE.grown {W W' : World} {v : Value} {es : List α} {R : Nat} (hE : EK E) (h : RowE E e k B N W v es) (hg : W.grownBy W' (some R)) (hR : R < B) : RowE E e k B N W' v es := h.keep hE hg.size (fun x hB hl _ => hg.block x hl (fun he => by have := Option.some.inj he; omega))
theorem RowE.weaken {M : Nat → Prop} {W : World} {v : Value} {es : List α} (h : RowE E e k B N W v es) (hM : ∀ x, x < W.heap.size → M x → N x) : RowE E e k B M W v es := by
 obtain ⟨⟨css, F, h1, h2, h3, h4⟩, h5⟩ := h
 exact ⟨⟨css, F, h1, h2, h3, fun x hx => ⟨(h4 x hx).1, (h4 x hx).2.1, (h4 x hx).2.2.1, fun hm => (h4 x hx).2.2.2 (hM x (h4 x hx).2.1 hm)⟩⟩, fun x hx => ⟨(h5 x hx).1, (h5 x hx).2.1, fun hm => (h5 x hx).2.2 (hM x (h5 x hx).2.1 hm)⟩⟩
theorem RowE.app {P : Program} {o : Oper} {ρ : Operand → Value} {x z : Operand} {t : TypeId} {z0 : Value} {bytes c : Nat} {W : World} {v : Value} {es : List α} {p : α} {cs : List Value} {G : Nat → Prop} {D : Nat}
  (hE : EK E) (h : RowE E e k B N W v es) (ho : o.op = .call { callee := .builtin .append, args := #[x, z], argTypes := #[t, t] }) (hx : ρ x = v) (hz : ρ z = .slice (some ⟨D, 0, none⟩) 1 c) (hu : P.underlying t = some (.slice e)) (hi : (P.info? e).map (fun i => (i.zero, i.size, i.bytes)) = some (some z0, k, bytes)) (hzs : z0.cells.size = k) (hsz : 0 < k) (hc : cs.length = k) (hD : Box W D cs) (h1 : ∀ u ∈ cs, u.oneCell' = true) (h63 : es.length < 1000000000) (hbytes : bytes ≤ 1000) (hB : B ≤ W.heap.size)
  (hp : E W G p cs) (hG : ∀ x, G x → x < W.heap.size → B ≤ x ∧ v.ownBlock ≠ some x ∧ ¬ N x) (hN : ∀ x, N x → x < W.heap.size) :
  ∃ v' w', (execOp ρ o).run P W = .ok (.value v') w' ∧ RowE E e k B N w' v' (es ++ [p]) ∧ W.grownBy w' v.ownBlock ∧ (∀ x, v'.ownBlock = some x → v.ownBlock = some x ∨ W.heap.size ≤ x) := by
 obtain ⟨⟨css, F, h2, h3, h4, h5⟩, h6⟩ := h
 have hb2 : (es.length + 1) * bytes ≤ 1000000000 * 1000 := Nat.mul_le_mul (by omega) hbytes
 obtain ⟨v', w', hr, hrow, hg, hsrc, _⟩ := ex_apps (P := P) ho hx hz hu hi hzs hsz h4 (by rw [hc, Nat.one_mul]) (fun j u hu => by rw [addr_add', Nat.zero_add]; exact hD.cell j u hu) h1 (by unfold maxLen; omega) (by omega) hB
 refine ⟨v', w', hr, ⟨⟨css ++ [cs], fun y => F y ∨ (G y ∧ y < W.heap.size), by simp [h2], ?_, ?_, ?_⟩, ?_⟩, hg, hsrc⟩
 ·have keep : ∀ (F' : Nat → Prop) (q : α) (ds : List Value), E W F' q ds → (∀ y, F' y → y < W.heap.size → (F y ∨ (G y ∧ y < W.heap.size)) ∧ v.ownBlock ≠ some y) → E w' (fun y => F y ∨ (G y ∧ y < W.heap.size)) q ds := fun F' q ds hq hF' => hE W w' F' _ q ds hq hg.size (fun y hy hl => hg.block y hl (fun he => (hF' y hy hl).2 he.symm)) (fun y hy hl => (hF' y hy hl).1)
  intro j q ds hq hds
  by_cases hj : j < es.length
  ·rw [List.getElem?_append_left hj] at hq
   rw [List.getElem?_append_left (by omega)] at hds
   exact ⟨keep F q ds (h3 j q ds hq hds).1 (fun y hy _ => ⟨.inl hy, (h5 y hy).2.2.1⟩), (h3 j q ds hq hds).2⟩
  ·rw [List.getElem?_append_right (by omega)] at hq
   rw [List.getElem?_append_right (by omega), h2] at hds
   have hj0 : j - es.length = 0 := by
    rcases Nat.eq_zero_or_pos (j - es.length) with h | h
    ·exact h
    ·rw [List.getElem?_eq_none (by simp; omega)] at hq
     cases hq
   rw [hj0] at hq hds
   obtain rfl := Option.some.inj hq
   obtain rfl := Option.some.inj hds
   exact ⟨keep G p cs hp (fun y hy hl => ⟨.inr ⟨hy, hl⟩, (hG y hy hl).2.1⟩), hc⟩
 ·rw [List.flatten_append, List.length_append]
  simpa using hrow
 ·intro y hy
  have hlt : y < W.heap.size := by
   rcases hy with hy | hy
   ·exact (h5 y hy).2.1
   ·exact hy.2
  have hnv : v.ownBlock ≠ some y := by
   rcases hy with hy | hy
   ·exact (h5 y hy).2.2.1
   ·exact (hG y hy.1 hy.2).2.1
  refine ⟨?_, Nat.lt_of_lt_of_le hlt hg.size, fun he => ?_, ?_⟩
  ·rcases hy with hy | hy
   ·exact (h5 y hy).1
   ·exact (hG y hy.1 hy.2).1
  ·rcases hsrc y he with h | h
   ·exact hnv h
   ·omega
  ·rcases hy with hy | hy
   ·exact (h5 y hy).2.2.2
   ·exact (hG y hy.1 hy.2).2.2
 ·intro y hy
  obtain ⟨h7, h8⟩ := World.ownsRow.lt hrow y hy
  refine ⟨h7, h8, fun hn => ?_⟩
  rcases hsrc y hy with h | h
  ·exact (h6 y h).2.2 hn
  ·have := hN y hn
   omega
end
def EF (W : World) (F : Nat → Prop) (p : ByteArray × Tr) (cs : List Value) : Prop := ∃ ds, cs = .string p.1 :: ds ∧ p.1.size ≤ maxLen ∧ VAt W F p.2 ds
theorem ekV : EK VAt := fun W W' F G p cs h hs hk hG => h.kept hs hk hG
theorem ekF : EK EF := fun W W' F G p cs h hs hk hG => by
 obtain ⟨ds, e, h1, h2⟩ := h
 exact ⟨ds, e, h1, h2.kept hs hk hG⟩
theorem isL_ofL : ∀ es : List Tr, (Tr.ofL es).isL = true
 | [] => rfl
 | _ :: r => isL_ofL r
theorem lst_ofL : ∀ es : List Tr, (Tr.ofL es).lst = es
 | [] => rfl
 | t :: r => congrArg (t :: ·) (lst_ofL r)
theorem isF_ofF : ∀ es : List (ByteArray × Tr), (Tr.ofF es).isF = true
 | [] => rfl
 | (_, _) :: r => isF_ofF r
theorem lst_ofF : ∀ es : List (ByteArray × Tr), (Tr.ofF es).lst = es.map (·.2)
 | [] => rfl
 | (_, t) :: r => congrArg (t :: ·) (lst_ofF r)
theorem ofL_lst : ∀ l : Tr, l.isL = true → Tr.ofL l.lst = l
 | .nil, _ => rfl
 | .lcons t r, h => by show Tr.lcons t (Tr.ofL r.lst) = _; rw [ofL_lst r h]
 | .mk _ _ _ _ _, h => by cases h
 | .fcons _ _ _, h => by cases h
theorem ofF_prs : ∀ l : Tr, l.isF = true → Tr.ofF l.prs = l
 | .nil, _ => rfl
 | .fcons m t r, h => by show Tr.fcons m t (Tr.ofF r.prs) = _; rw [ofF_prs r h]
 | .mk _ _ _ _ _, h => by cases h
 | .lcons _ _, h => by cases h
theorem range_left {W : World} {g o : Nat} {a c : List Value} (h : W.rangeAt g o (a ++ c)) : W.rangeAt g o a := fun i u hu => h i u (by rw [List.getElem?_append_left (List.getElem?_eq_some_iff.1 hu).1]; exact hu)
theorem range_right {W : World} {g o : Nat} {a c : List Value} (h : W.rangeAt g o (a ++ c)) : W.rangeAt g (o + a.length) c := fun i u hu => by
 have := h (a.length + i) u (by rw [List.getElem?_append_right (by omega), Nat.add_sub_cancel_left]; exact hu)
 rwa [← Nat.add_assoc] at this
theorem rep_ofL {W : World} {F : Nat → Prop} {g : Nat} : ∀ (es : List Tr) (css : List (List Value)) (o : Nat), css.length = es.length → (∀ (j : Nat) p cs, es[j]? = some p → css[j]? = some cs → VAt W F p cs ∧ cs.length = 5) → W.rangeAt g o css.flatten → rep W F (Tr.ofL es) (.row g o)
 | [], _, _, _, _, _ => trivial
 | t :: r, [], _, h, _, _ => by cases h
 | t :: r, c :: css, o, hl, hv, hr => by
  obtain ⟨h1, h2⟩ := hv 0 t c rfl rfl
  rw [List.flatten_cons] at hr
  refine ⟨⟨c, h2, range_left hr, h1⟩, rep_ofL r css (o + 5) (by simpa using hl) (fun j p cs hp hc => hv (j + 1) p cs hp hc) ?_⟩
  have := range_right hr
  rwa [h2] at this
theorem rep_ofF {W : World} {F : Nat → Prop} {g : Nat} : ∀ (es : List (ByteArray × Tr)) (css : List (List Value)) (o : Nat), css.length = es.length → (∀ (j : Nat) p cs, es[j]? = some p → css[j]? = some cs → EF W F p cs ∧ cs.length = 6) → W.rangeAt g o css.flatten → rep W F (Tr.ofF es) (.row g o)
 | [], _, _, _, _, _ => trivial
 | t :: r, [], _, h, _, _ => by cases h
 | (m, t) :: r, c :: css, o, hl, hv, hr => by
  obtain ⟨⟨ds, hc, h3, h1⟩, h2⟩ := hv 0 (m, t) c rfl rfl
  rw [List.flatten_cons] at hr
  refine ⟨⟨ds, by rw [hc] at h2; simpa using h2, h3, hc ▸ range_left hr, h1⟩, rep_ofF r css (o + 6) (by simpa using hl) (fun j p cs hp hc => hv (j + 1) p cs hp hc) ?_⟩
  have := range_right hr
  rwa [h2] at this
theorem own_at {W : World} {B k n g c : Nat} {e : TypeId} {xs : List Value} (h : W.ownsRow B e k (.slice (some ⟨g, 0, none⟩) n c) n xs) : W.rangeAt g 0 xs := fun i u hu => by
 have := World.ownsRow.cells (g := g) h rfl i u hu
 rwa [addr_add', ] at this
theorem RowE.lat {W : World} {v : Value} {es : List Tr} {B : Nat} {e : TypeId} {N : Nat → Prop} (h : RowE VAt e 5 B N W v es) : LAt W (fun x => B ≤ x) (Tr.ofL es) v := by
 obtain ⟨⟨css, F, h1, h2, h3, h4⟩, h5⟩ := h
 have hlen : (Tr.ofL es).len = es.length := by show (Tr.ofL es).lst.length = _; rw [lst_ofL]
 rcases id h3.2 with ⟨e1, e2⟩ | ⟨g, cap, cur, e1, e2, e3, e4, e5, _⟩
 ·have : es = [] := List.length_eq_zero_iff.1 e2
  subst this
  subst e1
  exact LAt.nil _ _
 ·subst e1
  exact ⟨_, _, by rw [hlen], isL_ofL es, by rw [hlen]; exact e4, e5, (fun h => by cases h), fun _ => ⟨g, 0, rfl, e2, (h5 g rfl).2.1, rep_ofL es css 0 h1 (fun j p cs hp hc => ⟨(h2 j p cs hp hc).1.kept (Nat.le_refl _) (fun _ _ _ => rfl) (fun x hx _ => (h4 x hx).1), (h2 j p cs hp hc).2⟩) (own_at h3)⟩⟩
theorem RowE.fat {W : World} {v : Value} {es : List (ByteArray × Tr)} {B : Nat} {e : TypeId} {N : Nat → Prop} (h : RowE EF e 6 B N W v es) : FAt W (fun x => B ≤ x) (Tr.ofF es) v := by
 obtain ⟨⟨css, F, h1, h2, h3, h4⟩, h5⟩ := h
 have hlen : (Tr.ofF es).len = es.length := by show (Tr.ofF es).lst.length = _; rw [lst_ofF, List.length_map]
 rcases id h3.2 with ⟨e1, e2⟩ | ⟨g, cap, cur, e1, e2, e3, e4, e5, _⟩
 ·have : es = [] := List.length_eq_zero_iff.1 e2
  subst this
  subst e1
  exact FAt.nil _ _
 ·subst e1
  exact ⟨_, _, by rw [hlen], isF_ofF es, by rw [hlen]; exact e4, e5, (fun h => by cases h), fun _ => ⟨g, 0, rfl, e2, (h5 g rfl).2.1, rep_ofF es css 0 h1 (fun j p cs hp hc => ⟨ekF W W _ _ _ _ (h2 j p cs hp hc).1 (Nat.le_refl _) (fun _ _ _ => rfl) (fun x hx _ => (h4 x hx).1), (h2 j p cs hp hc).2⟩) (own_at h3)⟩⟩
theorem RowE.sl {α : Type} {E : World → (Nat → Prop) → α → List Value → Prop} {e : TypeId} {k B : Nat} {N : Nat → Prop} {W : World} {v : Value} {es : List α} (h : RowE E e k B N W v es) : ∃ a c, v = .slice a es.length c := by
 obtain ⟨⟨css, F, h1, h2, h3, h4⟩, h5⟩ := h
 rcases h3.2 with ⟨h1, h2⟩ | ⟨g, cap, cur, h1, _⟩
 ·exact ⟨none, 0, by rw [h1, h2]⟩
 ·exact ⟨_, _, h1⟩
theorem Box.grow {W W' : World} {b : Nat} {row : Option Nat} {cs : List Value} (h : Box W b cs) (hg : W.grownBy W' row) (hne : row ≠ some b) : Box W' b cs :=
 have hb := hg.block b h.lt (fun e => hne e.symm)
 ⟨fun j v hv => (World.cell?_of_block (a := ⟨b, 0 + j, none⟩) hb).trans (h.rng j v hv), fun o => (World.frozen?_of_block (a := ⟨b, o, none⟩) hb).trans (h.free o), Nat.lt_of_lt_of_le h.lt hg.size⟩
theorem Box.grow_own {W W' : World} {b B : Nat} {v : Value} {cs : List Value} (h : Box W b cs) (hg : W.grownBy W' v.ownBlock) (ho : ∀ x, v.ownBlock = some x → B ≤ x) (hb : b < B) : Box W' b cs := h.grow hg (fun e => by have := ho b e; omega)
section
variable {ops : Array Oper} {Q : Exit → Act → World → Prop} {N : Nat} {env : VEnv} {a : Act} {w : World} {S : World → Prop} {R : Act → World → Prop} {i d : Nat} {rest : List (Nat × Nat)} {oi : Oper} {b : Base} {lx : List (Nat × List Value)} {v : Value} {p q : Operand} {P : Program} {t e : TypeId} {k : Nat} {cs : List Value}
theorem ov2_bsE (hf : FrV N env a) (hB : Bx b lx w) (hi : ops[i]? = some oi) (hd : oi.dst = some d) (hdN : d < N) (hw : Region.wanted oi (yielded ops a.tmps) = true) (ho : oi.op = .buildSlice t 1 #[(0, p)]) (hx : ev env p = some (.agg cs.toArray)) (hu : P.underlying t = some (.slice e)) (hz : zeroB P e k = true) (hi2 : (P.info? e).map (·.size) = some k) (hc : cs.length = k) (hk : 0 < k) (hk2 : k ≤ 1000) (hS : ∀ w', Bx b lx w' → S w') (h : ∀ a' C w', C = w.heap.size → FrV N ((d, .slice (some ⟨C, 0, none⟩) 1 1) :: env) a' → Bx b ((C, cs) :: lx) w' → Below w.heap.size w w' → wpOrd P ops Q S R rest a' w') : wpOrd P ops Q S R ((i, 2) :: rest) a w :=
 have hn := hB.new cs e
 ov2w hf hi hd hdN hw (ex_bs1 ho (hf.ev hx) hu hz hi2 hc hk hk2) (hS _ hn.sub) (fun a' hf' => h a' _ _ rfl hf' hn ((Below.refl _ _).alloc (Nat.le_refl _) _))
variable {α : Type} {E : World → (Nat → Prop) → α → List Value → Prop} {B : Nat} {M G : Nat → Prop} {es : List α} {c : Nat} {z0 : Value} {bytes D : Nat} {pe : α}
theorem ov2_appE (hE : EK E) (hf : FrV N env a) (hB : Bx b ((D, cs) :: lx) w) (hi : ops[i]? = some oi) (hd : oi.dst = some d) (hdN : d < N) (hw : Region.wanted oi (yielded ops a.tmps) = true) (ho : oi.op = .call { callee := .builtin .append, args := #[p, q], argTypes := #[t, t] }) (hx : ev env p = some v) (hz : ev env q = some (.slice (some ⟨D, 0, none⟩) 1 c)) (hu : P.underlying t = some (.slice e)) (hi2 : (P.info? e).map (fun i => (i.zero, i.size, i.bytes)) = some (some z0, k, bytes)) (hzs : z0.cells.size = k) (hsz : 0 < k) (hc : cs.length = k) (h1 : ∀ u ∈ cs, u.oneCell' = true) (h63 : es.length < 1000000000) (hbytes : bytes ≤ 1000)
  (hL : RowE E e k B M w v es) (hBw : B ≤ w.heap.size) (hp : E w G pe cs) (hG : ∀ x, G x → B ≤ x ∧ v.ownBlock ≠ some x ∧ ¬ M x) (hM : ∀ x, M x → x < w.heap.size) (hMx : ∀ x ∈ lx, M x.1) (hbw : b.w.heap.size ≤ B) (hbs : ∀ p ∈ b.bs, p.1.heap.size ≤ B) (hS : ∀ w', Bx b lx w' → S w')
  (h : ∀ a' v' w', FrV N ((d, v') :: env) a' → Bx b lx w' → RowE E e k B M w' v' (es ++ [pe]) → w.grownBy w' v.ownBlock → wpOrd P ops Q S R rest a' w') : wpOrd P ops Q S R ((i, 2) :: rest) a w := by
 obtain ⟨v', w', hr, h2, h3, h4⟩ := RowE.app hE hL ho (hf.ev hx) (hf.ev hz) hu hi2 hzs hsz hc (hB.get (i := 0) rfl) h1 h63 hbytes hBw hp (fun x hx _ => hG x hx) hM
 have hB' : Bx b lx w' := hB.sub.grown h3 (fun x hx => ⟨Nat.le_trans hbw (hL.own x hx).1, fun y hy e => (hL.own x hx).2.2 (e ▸ hMx y hy), fun p hp hlt => by have := hbs p hp; have := (hL.own x hx).1; omega⟩)
 exact ov2w hf hi hd hdN hw hr (hS _ hB') (fun a' hf' => h a' v' w' hf' hB' h2 h3)
theorem sv_appE {y : Nat} {ps : String} {af : Array Edge} {rest : List Oper} (hE : EK E) (hf : FrV N env a) (hB : Bx b ((D, cs) :: lx) w) (hx : ev env p = some v) (hz : ev env q = some (.slice (some ⟨D, 0, none⟩) 1 c)) (hu : P.underlying t = some (.slice e)) (hi2 : (P.info? e).map (fun i => (i.zero, i.size, i.bytes)) = some (some z0, k, bytes)) (hzs : z0.cells.size = k) (hsz : 0 < k) (hc : cs.length = k) (h1 : ∀ u ∈ cs, u.oneCell' = true) (h63 : es.length < 1000000000) (hbytes : bytes ≤ 1000)
  (hL : RowE E e k B M w v es) (hBw : B ≤ w.heap.size) (hp : E w G pe cs) (hG : ∀ x, G x → B ≤ x ∧ v.ownBlock ≠ some x ∧ ¬ M x) (hM : ∀ x, M x → x < w.heap.size) (hMx : ∀ x ∈ lx, M x.1) (hbw : b.w.heap.size ≤ B) (hbs : ∀ p ∈ b.bs, p.1.heap.size ≤ B) (hdN : d < N)
  (h : ∀ a' v' w', FrV N ((d, v') :: env) a' → Bx b lx w' → RowE E e k B M w' v' (es ++ [pe]) → w.grownBy w' v.ownBlock → wpList P ops Q rest a' w') : wpList P ops Q ({ dst := some d, op := .call { callee := .builtin .append, args := #[p, q], argTypes := #[t, t] }, type := y, pos := ps, after := af, guard := none } :: rest) a w := by
 obtain ⟨v', w', hr, h2, h3, h4⟩ := RowE.app (o := { dst := some d, op := .call { callee := .builtin .append, args := #[p, q], argTypes := #[t, t] }, type := y, pos := ps, after := af, guard := none }) hE hL rfl (hf.ev hx) (hf.ev hz) hu hi2 hzs hsz hc (hB.get (i := 0) rfl) h1 h63 hbytes hBw hp (fun x hx _ => hG x hx) hM
 have hB' : Bx b lx w' := hB.sub.grown h3 (fun x hx => ⟨Nat.le_trans hbw (hL.own x hx).1, fun y hy e => (hL.own x hx).2.2 (e ▸ hMx y hy), fun p hp hlt => by have := hbs p hp; have := (hL.own x hx).1; omega⟩)
 exact wpList_ok rfl hr (h _ v' w' (hf.put hdN _) hB' h2 h3)
end
theorem zB_val : zeroB Tryz.prog 29 5 = true := by kernel_rfl
theorem zB_fld : zeroB Tryz.prog 78 6 = true := by kernel_rfl
theorem wfT_lst : ∀ l : Tr, wfT l → ∀ t ∈ l.lst, wfT t ∧ t.isV = true
 | .nil, _, t, h => by cases h
 | .mk _ _ _ _ _, _, t, h => by cases h
 | .lcons a r, hw, t, h => by
  rcases List.mem_cons.1 h with rfl | h
  ·exact ⟨hw.2.1, hw.1⟩
  ·exact wfT_lst r hw.2.2 t h
 | .fcons _ a r, hw, t, h => by
  rcases List.mem_cons.1 h with rfl | h
  ·exact ⟨hw.2.2.1, hw.2.1⟩
  ·exact wfT_lst r hw.2.2.2 t h
theorem dep_le : ∀ l t : Tr, t ∈ l.lst → t.dep ≤ l.dep
 | .nil, t, h => by cases h
 | .mk _ _ _ _ _, t, h => by cases h
 | .lcons a r, t, h => by
  rcases List.mem_cons.1 h with rfl | h
  ·exact Nat.le_max_left _ _
  ·exact Nat.le_trans (dep_le r t h) (Nat.le_max_right _ _)
 | .fcons _ a r, t, h => by
  rcases List.mem_cons.1 h with rfl | h
  ·exact Nat.le_max_left _ _
  ·exact Nat.le_trans (dep_le r t h) (Nat.le_max_right _ _)
theorem snd_of : ∀ l t : Tr, l.snd = true → t ∈ l.lst → t.snd = true
 | .nil, t, _, h => by cases h
 | .mk _ _ _ _ _, t, _, h => by cases h
 | .lcons a r, t, hs, h => by
  have hs' : (a.snd && r.snd) = true := hs
  rw [Bool.and_eq_true] at hs'
  rcases List.mem_cons.1 h with rfl | h
  ·exact hs'.1
  ·exact snd_of r t hs'.2 h
 | .fcons _ a r, t, hs, h => by
  have hs' : (a.snd && r.snd) = true := hs
  rw [Bool.and_eq_true] at hs'
  rcases List.mem_cons.1 h with rfl | h
  ·exact hs'.1
  ·exact snd_of r t hs'.2 h
theorem isN_of : ∀ (seen l : List ByteArray) (m : ByteArray), Tr.nmsOK seen l = true → m ∈ l → Tr.isN m = true
 | _, [], m, _, h => by cases h
 | seen, x :: r, m, hs, h => by
  have hs' : (Tr.isN x && !seen.any (fun y => decide (y = x)) && Tr.nmsOK (x :: seen) r) = true := hs
  simp only [Bool.and_eq_true] at hs'
  rcases List.mem_cons.1 h with rfl | h
  ·exact hs'.1.1
  ·exact isN_of (x :: seen) r m hs'.2 h
theorem isN_ne {m : ByteArray} (h : Tr.isN m = true) : m.size ≤ 32 ∧ ∀ c ∈ m.data.toList, c ≠ 0 := by
 unfold Tr.isN at h
 simp only [Bool.and_eq_true, decide_eq_true_eq] at h
 refine ⟨h.1.1.2, fun c hc e => ?_⟩
 have := List.all_eq_true.1 h.2 c hc
 rw [e] at this
 revert this
 decide
theorem len_le_flat {α : Type} {f : α → List UInt8} (hf : ∀ x, 1 ≤ (f x).length) : ∀ l : List α, l.length ≤ (l.flatMap f).length
 | [] => Nat.zero_le _
 | x :: l => by
  have := len_le_flat hf l
  have := hf x
  simp only [List.flatMap_cons, List.length_append, List.length_cons]
  omega
theorem prs_nm : ∀ (d : Tr) (p : ByteArray × Tr), p ∈ d.prs → p.1 ∈ d.nms ∧ p.2 ∈ d.lst
 | .nil, p, h => by cases h
 | .mk _ _ _ _ _, p, h => by cases h
 | .lcons _ _, p, h => by cases h
 | .fcons m t r, p, h => by
  rcases List.mem_cons.1 h with rfl | h
  ·exact ⟨List.mem_cons_self, List.mem_cons_self⟩
  ·exact ⟨List.mem_cons_of_mem _ (prs_nm r p h).1, List.mem_cons_of_mem _ (prs_nm r p h).2⟩
theorem empty_size {s : ByteArray} (h : s.size = 0) : s = ⟨#[]⟩ := by
 obtain ⟨⟨l⟩⟩ := s
 cases l with
 | nil => rfl
 | cons a l => exact absurd h (by show ¬ (l.length + 1 = 0); omega)
theorem ex_bldF {N : Nat} {env : VEnv} {a : Act} {w : World} {oo : Oper} {x z : Operand} {m : ByteArray} {cs : List Value} (hf : FrV N env a) (ho : oo.op = .build 78 #[(0, x), (1, z)]) (hx : ev env x = some (.string m)) (hz : ev env z = some (.agg cs.toArray)) (hc : cs.length = 5) : (execOp a.eval oo).run Tryz.prog w = .ok (.value (.agg (.string m :: cs).toArray)) w := by
 obtain ⟨c1, c2, c3, c4, c5, rfl⟩ : ∃ c1 c2 c3 c4 c5, cs = [c1, c2, c3, c4, c5] := by
  match cs, hc with
  | [c1, c2, c3, c4, c5], _ => exact ⟨c1, c2, c3, c4, c5, rfl⟩
 exact ex_bld (cs := [.string m, c1, c2, c3, c4, c5]) hf ho (vs := [(0, .string m), (1, .agg [c1, c2, c3, c4, c5].toArray)]) (by simp [evp, hx, hz]) (by kernel_rfl)
theorem einfo3_val : (Tryz.prog.info? 29).map (fun i => (i.zero, i.size, i.bytes)) = some (some (.agg (List.toArray [.int .i64 0, .int .i64 0, .string ⟨#[]⟩, .slice none 0 0, .slice none 0 0])), 5, 80) := by kernel_rfl
theorem einfo3_fld : (Tryz.prog.info? 78).map (fun i => (i.zero, i.size, i.bytes)) = some (some (.agg (List.toArray [.string ⟨#[]⟩, .int .i64 0, .int .i64 0, .string ⟨#[]⟩, .slice none 0 0, .slice none 0 0])), 6, 96) := by kernel_rfl
theorem rd_K6 {n0 : Nat} (hn : RdC n0) (lt : Tr) (hlL : lt.isL = true) (hsz : lt.sz ≤ n0 + 1) (hls : lt.snd = true) (hwt : wfT lt) (w : World) (R : Nat) (s : ByteArray) (p : Nat) (dp : Int) (post : List UInt8) (hs9 : s.size ≤ 1000000000) (hd1 : 1 ≤ dp) (hd2 : dp + (((Tr.mk 6 0 ⟨#[]⟩ lt .nil).dep : Nat) : Int) ≤ 17) (hp : s.data.toList.drop p = (Tr.mk 6 0 ⟨#[]⟩ lt .nil).kb ++ post) (hRb : Box w R [.string s, .int .i64 (p : Int), .int .u8 0, .int .i64 0]) : Calls Tryz.prog 54 #[.pointer (some ⟨R, 0, none⟩), .int .i64 dp] w fun e w' => ∃ cs, e = .returned (.agg cs.toArray) ∧ VAt w' (fun k => w.heap.size ≤ k) (Tr.mk 6 0 ⟨#[]⟩ lt .nil) cs ∧ Box w' R [.string s, .int .i64 ((p + (Tr.mk 6 0 ⟨#[]⟩ lt .nil).kb.length : Nat) : Int), .int .u8 0, .int .i64 0] ∧ w.grownBy w' (some R) := by
 have hs : s.size ≤ maxLen := by unfold maxLen; omega
 have hd2n : dp + 1 + ((lt.dep : Nat) : Int) ≤ 17 := by have : (Tr.mk 6 0 ⟨#[]⟩ lt .nil).dep = 1 + lt.dep := rfl; omega
 have hkb : (Tr.mk 6 0 ⟨#[]⟩ lt .nil).kb = (Tr.kB 6 :: ((lt.lst.flatMap (fun p : Tr => 1 :: p.kb)) ++ [0])) := by show _ :: lt.kb = _; rw [kb_lst lt hlL]
 rw [hkb] at hp ⊢
 rw [List.cons_append] at hp
 obtain ⟨hb0, hp0⟩ := drop_one hp
 have hk0 : (((Tr.kB 6).toNat : Nat) : Int) = 6 := by decide
 have hRw := hRb.lt
 have hdp : dp ≤ 16 := by omega
 refine cv2 Tryz.func54 rfl rfl rfl fun a hf => ?_
 have hX := Bx.start w
 clear hX
 have hX := Bx.bare w (fun k => k ≠ R)
 refine gc hf ?_
 intro a hf
 refine sv_alloc (zs := [.int .i64 0, .int .i64 0, .string ⟨#[]⟩, .slice none 0 0, .slice none 0 0]) hf hX zero_val dd (fun a C1 W hC hf hX hA => ?_)
 have hneC1 : R ≠ C1 := fun e => by have := hRb.lt; omega
 replace hRb := hRb.keep hA
 clear hC hA
 refine go hf ?_
 intro a hf
 refine sv_call hf fnOK_78 rfl (next_any R s hs p (Tr.kB 6) hb0 _ hRb) dd ?_
 rintro e W2 ⟨rfl, hb, hg⟩
 replace hX := hX.grown hg (fun k e => by obtain rfl := Option.some.inj e; exact ⟨Nat.zero_le _, (by intro x hx e; simp only [List.mem_cons, List.not_mem_nil, or_false] at hx; rcases hx with rfl; exact hneC1 e.symm), fun p hp _ => by rw [List.mem_singleton.1 hp]; exact fun h => h rfl⟩)
 replace hRb := hb
 clear hb hg
 obtain ⟨W, hWW⟩ : ∃ X, X = W2 := ⟨_, rfl⟩
 subst hWW
 refine ⟨_, rfl, fun a hf => ?_⟩
 refine sv_run (v := .int .i64 (((Tr.kB 6).toNat : Nat) : Int)) hf dd (fun a hf => ex_cv83 hf rfl rfl) (fun a hf => ?_)
 refine go hf ?_
 intro a hf
 rw [hk0] at hf
 first | refine gc hf ?_ | refine go hf ?_
 intro a hf
 refine sv_lm hf rfl (hRb.cell 3 _ rfl) Tryz.underlying32 rfl dd (fun a hf => ?_)
 refine go hf ?_
 intro a hf
 refine sv_cmp hf rfl rfl false (congrArg some (decide_eq_false (by omega))) dd (fun a hf => ?_)
 refine go hf ?_
 intro a hf
 refine sv_build (cs := [.int .i64 6, .int .i64 0, .string ⟨#[]⟩, .slice none 0 0, .slice none 0 0]) hf rfl (by kernel_rfl) dd (fun a hf => ?_)
 refine sv_alloc (zs := [.int .i64 0, .int .i64 0, .string ⟨#[]⟩, .slice none 0 0, .slice none 0 0]) hf hX zero_val dd (fun a C2 W hC hf hX hA => ?_)
 have hneC2 : R ≠ C2 := fun e => by have := hRb.lt; omega
 replace hRb := hRb.keep hA
 clear hC hA
 refine sv_sr hf hX rfl rfl 0 rfl rfl info_val (ones_of rfl) [(C2, [.int .i64 6, .int .i64 0, .string ⟨#[]⟩, .slice none 0 0, .slice none 0 0]), (C1, [.int .i64 0, .int .i64 0, .string ⟨#[]⟩, .slice none 0 0, .slice none 0 0])] rfl (fun W hX hO => ?_)
 replace hRb := hRb.other hO hneC2
 clear hO
 refine go hf ?_
 intro a hf
 refine wp_block ?_
 refine gc hf ?_
 intro a hf
 have hge : w.heap.size ≤ W.heap.size := (hX.bas _ List.mem_cons_self).1
 refine wp_block (wp_loop (fun a X => ∃ (j pos : Nat) (vx : Value), FrV 94 [(0, .pointer (some ⟨R, 0, none⟩)), (1, .int .i64 dp), (4, .pointer (some ⟨C1, 0, none⟩)), (6, .pointer (some ⟨C2, 0, none⟩))] a ∧ Bx ⟨bare w, [(w, fun k => k ≠ R)]⟩ [(C2, [.int .i64 6, .int .i64 0, .string ⟨#[]⟩, vx, .slice none 0 0]), (C1, [.int .i64 0, .int .i64 0, .string ⟨#[]⟩, .slice none 0 0, .slice none 0 0])] X ∧ j ≤ lt.lst.length ∧ pos = p + 1 + ((lt.lst.take j).flatMap (fun p : Tr => 1 :: p.kb)).length ∧ s.data.toList.drop pos = (lt.lst.drop j).flatMap (fun p : Tr => 1 :: p.kb) ++ (0 :: post) ∧ Box X R [.string s, .int .i64 ((pos : Nat) : Int), .int .u8 0, .int .i64 0] ∧ RowE VAt 29 5 w.heap.size (fun x => x = C2 ∨ x = C1) X vx (lt.lst.take j)) (fun _ X => s.size + 1 - atR R X) ⟨0, p + 1, _, hf.sub (sub_cons rfl (sub_cons rfl (sub_cons rfl (sub_cons rfl (sub_nil))))), hX, Nat.zero_le _, rfl, (by rw [List.drop_zero]; rw [List.append_assoc] at hp0; exact hp0), hRb, RowE.nil W⟩ ?_)
 clear hf hX hRb hge
 rintro a W ⟨j, pos, vx, hf, hX, hj, hpos, hdr, hRb, hL⟩
 have hat0 := atR_eq hRb
 have hps : pos < s.size := by rcases Nat.lt_or_ge pos s.data.toList.length with h | h; rwa [size_list] at h; rw [List.drop_eq_nil_of_le h] at hdr; exact absurd (congrArg List.length hdr) (by simp)
 have hjp := len_le_flat (f := (fun p : Tr => 1 :: p.kb)) (fun x => by simp) (lt.lst.take j)
 rw [List.length_take] at hjp
 have hcnt : (lt.lst.take j).length < 1000000000 := by rw [List.length_take]; omega
 rcases Nat.lt_or_ge j lt.lst.length with hjl | hjl
 ·
  obtain ⟨t, hpt⟩ : ∃ t, lt.lst[j]? = some t := ⟨_, List.getElem?_eq_getElem hjl⟩
  have hdj : lt.lst.drop j = t :: lt.lst.drop (j + 1) := by rw [List.drop_eq_getElem_cons hjl]; congr 1; exact Option.some.inj ((List.getElem?_eq_getElem hjl).symm.trans hpt)
  have htk : lt.lst.take j ++ [t] = lt.lst.take (j + 1) := by rw [List.take_add_one, hpt]; rfl
  have hst : ((lt.lst.take (j + 1)).flatMap (fun p : Tr => 1 :: p.kb)).length = ((lt.lst.take j).flatMap (fun p : Tr => 1 :: p.kb)).length + ((fun p : Tr => 1 :: p.kb) t).length := by rw [flat_step hpt, List.length_append]
  rw [hdj, List.flatMap_cons, List.append_assoc] at hdr
  obtain ⟨rst, hrst⟩ : ∃ r, r = (lt.lst.drop (j + 1)).flatMap (fun p : Tr => 1 :: p.kb) ++ (0 :: post) := ⟨_, rfl⟩
  rw [← hrst] at hdr
  obtain ⟨hb1, hdr1⟩ := drop_one hdr
  have htl := List.mem_of_getElem? hpt
  have hdr2 : s.data.toList.drop (pos + 1) = t.kb ++ rst := hdr1
  have hdr3 := drop_next hdr2
  have htsz := Tr.sz_lst lt t htl
  have hdl := dep_le lt t htl
  have hts := snd_of lt t hls htl
  obtain ⟨htw, htv⟩ := wfT_lst lt hwt t htl
  refine gc hf ?_
  intro a hf
  refine sv_call hf fnOK_80 rfl (more_any R s hs pos true hb1 _ hRb) dd ?_
  rintro e W2 ⟨rfl, hb, hg⟩
  replace hL := hL.grown ekV hg hRw
  replace hX := hX.grown hg (fun k e => by obtain rfl := Option.some.inj e; exact ⟨Nat.zero_le _, (by intro x hx e; simp only [List.mem_cons, List.not_mem_nil, or_false] at hx; rcases hx with rfl | rfl; exact hneC2 e.symm; exact hneC1 e.symm), fun p hp _ => by rw [List.mem_singleton.1 hp]; exact fun h => h rfl⟩)
  replace hRb := hb
  clear hb hg
  obtain ⟨W, hWW⟩ : ∃ X, X = W2 := ⟨_, rfl⟩
  subst hWW
  refine ⟨_, rfl, fun a hf => ?_⟩
  refine go hf ?_
  intro a hf
  refine wp_block ?_
  refine wp_region_ordW 10 9 [(0, 0), (1, 1), (2, 0), (3, 0), (4, 0), (5, 2), (6, 2), (7, 2), (8, 0), (9, 3)] (fun X => Bx ⟨bare w, [(w, fun k => k ≠ R)]⟩ [(C2, [.int .i64 6, .int .i64 0, .string ⟨#[]⟩, vx, .slice none 0 0]), (C1, [.int .i64 0, .int .i64 0, .string ⟨#[]⟩, .slice none 0 0, .slice none 0 0])] X) mixed (by kernel_rfl) hX.drew (fun c a d v w h => by cases d <;> exact h) ?_
  replace hX := hX.drew
  replace hRb := hRb.drew
  replace hL := hL.below ekV (Below.refl _ _).drew
  refine o0 hf fun a hf => ?_
  refine ov1 (v := vx) hf rfl rfl dd rfl (fun X hS => ex_vlc (cs := [.int .i64 6, .int .i64 0, .string ⟨#[]⟩, vx, .slice none 0 0]) hf rfl rfl (hS.get (i := 0) rfl) rfl u26 rfl) (fun a hf => ?_)
  refine o0 hf fun a hf => ?_
  refine o0 hf fun a hf => ?_
  refine ov0 (v := .int .i64 (dp + 1)) hf rfl rfl dd rfl (fun X => ex_addk hf rfl rfl rfl (wrap_in (by omega))) (fun a hf => ?_)
  have hlC2 := (hX.get (i := 0) rfl).lt
  have hlC1 := (hX.get (i := 1) rfl).lt
  refine ov2c hf rfl rfl dd rfl rfl fnOK_54 rfl (hn t (by omega) htv _ R s (pos + 1) (dp + 1) rst hs9 (.inl hts) htw (by omega) (by omega) hdr2 hRb) ?_
  rintro e W2 ⟨cs, rfl, hvt, hb, hg⟩
  have hG : ∀ x, _ ≤ x → w.heap.size ≤ x ∧ vx.ownBlock ≠ some x ∧ ¬ (fun x => x = C2 ∨ x = C1) x := fun x hx => ⟨Nat.le_trans (hX.bas _ List.mem_cons_self).1 hx, fun e => absurd (hL.own x e).2.1 (Nat.not_lt_of_le hx), fun e => by rcases e with rfl | rfl; exact absurd hlC2 (Nat.not_lt_of_le hx); exact absurd hlC1 (Nat.not_lt_of_le hx)⟩
  replace hL := hL.grown ekV hg hRw
  replace hX := hX.grown hg (fun k e => by obtain rfl := Option.some.inj e; exact ⟨Nat.zero_le _, (by intro x hx e; simp only [List.mem_cons, List.not_mem_nil, or_false] at hx; rcases hx with rfl | rfl; exact hneC2 e.symm; exact hneC1 e.symm), fun p hp _ => by rw [List.mem_singleton.1 hp]; exact fun h => h rfl⟩)
  replace hRb := hb
  clear hb hg
  obtain ⟨W, hWW⟩ : ∃ X, X = W2 := ⟨_, rfl⟩
  subst hWW
  refine ⟨_, rfl, hX, fun a hf => ?_⟩
  have hge : w.heap.size ≤ W.heap.size := (hX.bas _ List.mem_cons_self).1
  have hcs5 := hvt.len
  have hones5 := hvt.ones
  have hones := hones5
  refine ov2_bsE (cs := cs) hf hX rfl rfl dd rfl rfl rfl u26 zB_val info_val hcs5 dd dd (fun _ h => h) (fun a G3 W hC hf hX hA => ?_)
  replace hRb := hRb.keep hA
  replace hL := hL.below ekV hA
  replace hvt := hvt.below hA
  clear hC hA
  replace hX : Bx ⟨bare w, [(w, fun k => k ≠ R)]⟩ [(G3, cs), (C2, [.int .i64 6, .int .i64 0, .string ⟨#[]⟩, vx, .slice none 0 0]), (C1, [.int .i64 0, .int .i64 0, .string ⟨#[]⟩, .slice none 0 0, .slice none 0 0])] W := hX
  have hlC2 := (hX.get (i := 1) rfl).lt
  have hlC1 := (hX.get (i := 2) rfl).lt
  refine ov2_appE (pe := t) ekV hf hX rfl rfl dd rfl rfl rfl rfl u26 einfo3_val rfl dd hcs5 hones hcnt dd hL ((hX.bas _ List.mem_cons_self).1) hvt hG (by intro x hx; rcases hx with rfl | rfl; exact hlC2; exact hlC1) (by intro x hx; simp only [List.mem_cons, List.not_mem_nil, or_false] at hx; rcases hx with rfl | rfl; exact Or.inl rfl; exact Or.inr rfl) (Nat.zero_le _) (fun p hp => by rw [List.mem_singleton.1 hp]; exact Nat.le_refl _) (fun _ h => h) (fun a v4 W hf hX hL2 hg => ?_)
  replace hRb := hRb.grow_own hg (fun x hx => (hL.own x hx).1) hRw
  replace hL := hL2
  clear hL2 hg
  obtain ⟨a_v4, c_v4, e_v4⟩ := hL.sl
  subst e_v4
  refine o0 hf fun a hf => ?_
  have hbS := hX.get (i := 0) (C := C2) (cs := [.int .i64 6, .int .i64 0, .string ⟨#[]⟩, vx, .slice none 0 0]) rfl
  refine ov3 rfl rfl rfl (ex_store_cell _ _ _ C2 3 (.slice a_v4 ((lt.lst.take j ++ [t]).length) c_v4) rfl (hf.ev rfl) (hf.ev rfl) (hbS.there 3 1 dd) info_vals rfl) ?_
  replace hX := hX.set (i := 0) rfl (hbS.setCell 3 (.slice a_v4 ((lt.lst.take j ++ [t]).length) c_v4) (of_decide_eq_true rfl)) (Only.setCell _ C2 3 _)
  replace hRb := hRb.other (Only.setCell _ C2 3 (.slice a_v4 ((lt.lst.take j ++ [t]).length) c_v4)) hneC2
  replace hL := hL.only ekV (Only.setCell _ C2 3 (.slice a_v4 ((lt.lst.take j ++ [t]).length) c_v4)) (Or.inl rfl)
  replace hRb : Box (World.setCells _ C2 3 [.slice a_v4 ((lt.lst.take j ++ [t]).length) c_v4]) _ _ := hRb
  replace hL : RowE _ _ _ _ _ (World.setCells _ C2 3 [.slice a_v4 ((lt.lst.take j ++ [t]).length) c_v4]) _ _ := hL
  clear hbS
  refine wpOrd_nil ?_
  rw [htk] at hL hRb hX ⊢
  have hat1 := atR_eq hRb
  have hGl : ((fun p : Tr => 1 :: p.kb) t).length = 1 + t.kb.length := by simp only [List.length_cons, List.length_append]; omega
  rw [hGl] at hst
  exact ⟨⟨j + 1, _, _, hf.sub (sub_cons rfl (sub_cons rfl (sub_cons rfl (sub_cons rfl (sub_nil))))), hX, hjl, by omega, by rw [← hrst]; exact hdr3, hRb, hL⟩, by show s.size + 1 - atR R _ < _; rw [hat1, hat0]; omega⟩
 ·
  obtain rfl : j = lt.lst.length := by omega
  rw [List.drop_length, List.flatMap_nil, List.nil_append] at hdr
  obtain ⟨hb1, _⟩ := drop_one hdr
  rw [List.take_length] at hL hpos
  refine gc hf ?_
  intro a hf
  refine sv_call hf fnOK_80 rfl (more_any R s hs pos false hb1 _ hRb) dd ?_
  rintro e W2 ⟨rfl, hb, hg⟩
  replace hL := hL.grown ekV hg hRw
  replace hX := hX.grown hg (fun k e => by obtain rfl := Option.some.inj e; exact ⟨Nat.zero_le _, (by intro x hx e; simp only [List.mem_cons, List.not_mem_nil, or_false] at hx; rcases hx with rfl | rfl; exact hneC2 e.symm; exact hneC1 e.symm), fun p hp _ => by rw [List.mem_singleton.1 hp]; exact fun h => h rfl⟩)
  replace hRb := hb
  clear hb hg
  obtain ⟨W, hWW⟩ : ∃ X, X = W2 := ⟨_, rfl⟩
  subst hWW
  refine ⟨_, rfl, fun a hf => ?_⟩
  refine go hf ?_
  intro a hf
  refine wp_exit ?_
  try simp only [Exit.inBlock, Exit.then, ↓reduceIte]
  obtain ⟨va, vc, hva⟩ := hL.sl
  subst hva
  refine gc hf ?_
  intro a hf
  refine sv_lr hf hX rfl 0 rfl u29 info_val dd (fun a hf => ?_)
  refine sv_sr hf hX rfl rfl 1 rfl rfl info_val (ones_of rfl) [(C2, [.int .i64 6, .int .i64 0, .string ⟨#[]⟩, .slice va lt.lst.length vc, .slice none 0 0]), (C1, [.int .i64 6, .int .i64 0, .string ⟨#[]⟩, .slice va lt.lst.length vc, .slice none 0 0])] rfl (fun W hX hO => ?_)
  replace hRb := hRb.other hO hneC1
  replace hL := hL.only ekV hO (Or.inr rfl)
  clear hO
  refine go hf ?_
  intro a hf
  have hfin := hL.lat
  rw [ofL_lst _ hlL] at hfin
  exact bodyPost_ret (res_cellV (c := 4) (C := C1) (cs := [.int .i64 6, .int .i64 0, .string ⟨#[]⟩, .slice va lt.lst.length vc, .slice none 0 0]) (T := 29) rfl (hf.rel 4 _ rfl) (hX.get (i := 1) rfl) u29 info_val) hf.defers ⟨_, rfl, (VAt.mk (by decide) (by decide) (by decide) hfin (FAt.nil _ _)), (by rw [List.length_cons, List.length_append, List.length_singleton]; rw [show p + ((lt.lst.flatMap (fun p : Tr => 1 :: p.kb)).length + 1 + 1) = pos + 1 by omega]; exact hRb), ⟨hX.low.os, hX.low.tape, hX.low.output, (hX.bas _ List.mem_cons_self).1, fun k hk hne => (hX.bas _ List.mem_cons_self).2 k hk (fun e => hne (by rw [e]))⟩⟩
theorem rd_K5 {n0 : Nat} (hn : RdC n0) (dt : Tr) (hlL : dt.isF = true) (hsz : dt.sz ≤ n0 + 1) (hls : dt.snd = true) (hnm : Tr.nmsOK [] dt.nms = true) (hwt : wfT dt) (w : World) (R : Nat) (s : ByteArray) (p : Nat) (dp : Int) (post : List UInt8) (hs9 : s.size ≤ 1000000000) (hd1 : 1 ≤ dp) (hd2 : dp + (((Tr.mk 5 0 ⟨#[]⟩ .nil dt).dep : Nat) : Int) ≤ 17) (hp : s.data.toList.drop p = (Tr.mk 5 0 ⟨#[]⟩ .nil dt).kb ++ post) (hRb : Box w R [.string s, .int .i64 (p : Int), .int .u8 0, .int .i64 0]) : Calls Tryz.prog 54 #[.pointer (some ⟨R, 0, none⟩), .int .i64 dp] w fun e w' => ∃ cs, e = .returned (.agg cs.toArray) ∧ VAt w' (fun k => w.heap.size ≤ k) (Tr.mk 5 0 ⟨#[]⟩ .nil dt) cs ∧ Box w' R [.string s, .int .i64 ((p + (Tr.mk 5 0 ⟨#[]⟩ .nil dt).kb.length : Nat) : Int), .int .u8 0, .int .i64 0] ∧ w.grownBy w' (some R) := by
 have hs : s.size ≤ maxLen := by unfold maxLen; omega
 have hd2n : dp + 1 + ((dt.dep : Nat) : Int) ≤ 17 := by have : (Tr.mk 5 0 ⟨#[]⟩ .nil dt).dep = 1 + dt.dep := rfl; omega
 have hkb : (Tr.mk 5 0 ⟨#[]⟩ .nil dt).kb = (Tr.kB 5 :: ((dt.prs.flatMap (fun p : ByteArray × Tr => 1 :: (p.1.data.toList ++ (0 :: p.2.kb)))) ++ [0])) := by show _ :: dt.kb = _; rw [kb_prs dt hlL]
 rw [hkb] at hp ⊢
 rw [List.cons_append] at hp
 obtain ⟨hb0, hp0⟩ := drop_one hp
 have hk0 : (((Tr.kB 5).toNat : Nat) : Int) = 5 := by decide
 have hRw := hRb.lt
 have hdp : dp ≤ 16 := by omega
 refine cv2 Tryz.func54 rfl rfl rfl fun a hf => ?_
 have hX := Bx.start w
 clear hX
 have hX := Bx.bare w (fun k => k ≠ R)
 refine gc hf ?_
 intro a hf
 refine sv_alloc (zs := [.int .i64 0, .int .i64 0, .string ⟨#[]⟩, .slice none 0 0, .slice none 0 0]) hf hX zero_val dd (fun a C1 W hC hf hX hA => ?_)
 have hneC1 : R ≠ C1 := fun e => by have := hRb.lt; omega
 replace hRb := hRb.keep hA
 clear hC hA
 refine go hf ?_
 intro a hf
 refine sv_call hf fnOK_78 rfl (next_any R s hs p (Tr.kB 5) hb0 _ hRb) dd ?_
 rintro e W2 ⟨rfl, hb, hg⟩
 replace hX := hX.grown hg (fun k e => by obtain rfl := Option.some.inj e; exact ⟨Nat.zero_le _, (by intro x hx e; simp only [List.mem_cons, List.not_mem_nil, or_false] at hx; rcases hx with rfl; exact hneC1 e.symm), fun p hp _ => by rw [List.mem_singleton.1 hp]; exact fun h => h rfl⟩)
 replace hRb := hb
 clear hb hg
 obtain ⟨W, hWW⟩ : ∃ X, X = W2 := ⟨_, rfl⟩
 subst hWW
 refine ⟨_, rfl, fun a hf => ?_⟩
 refine sv_run (v := .int .i64 (((Tr.kB 5).toNat : Nat) : Int)) hf dd (fun a hf => ex_cv83 hf rfl rfl) (fun a hf => ?_)
 refine go hf ?_
 intro a hf
 rw [hk0] at hf
 first | refine gc hf ?_ | refine go hf ?_
 intro a hf
 refine sv_lm hf rfl (hRb.cell 3 _ rfl) Tryz.underlying32 rfl dd (fun a hf => ?_)
 refine go hf ?_
 intro a hf
 refine sv_cmp hf rfl rfl false (congrArg some (decide_eq_false (by omega))) dd (fun a hf => ?_)
 refine go hf ?_
 intro a hf
 refine sv_build (cs := [.int .i64 5, .int .i64 0, .string ⟨#[]⟩, .slice none 0 0, .slice none 0 0]) hf rfl (by kernel_rfl) dd (fun a hf => ?_)
 refine sv_alloc (zs := [.int .i64 0, .int .i64 0, .string ⟨#[]⟩, .slice none 0 0, .slice none 0 0]) hf hX zero_val dd (fun a C2 W hC hf hX hA => ?_)
 have hneC2 : R ≠ C2 := fun e => by have := hRb.lt; omega
 replace hRb := hRb.keep hA
 clear hC hA
 refine sv_sr hf hX rfl rfl 0 rfl rfl info_val (ones_of rfl) [(C2, [.int .i64 5, .int .i64 0, .string ⟨#[]⟩, .slice none 0 0, .slice none 0 0]), (C1, [.int .i64 0, .int .i64 0, .string ⟨#[]⟩, .slice none 0 0, .slice none 0 0])] rfl (fun W hX hO => ?_)
 replace hRb := hRb.other hO hneC2
 clear hO
 refine go hf ?_
 intro a hf
 refine wp_block ?_
 refine gc hf ?_
 intro a hf
 have hge : w.heap.size ≤ W.heap.size := (hX.bas _ List.mem_cons_self).1
 refine wp_block (wp_loop (fun a X => ∃ (j pos : Nat) (vx : Value), FrV 94 [(0, .pointer (some ⟨R, 0, none⟩)), (1, .int .i64 dp), (4, .pointer (some ⟨C1, 0, none⟩)), (6, .pointer (some ⟨C2, 0, none⟩))] a ∧ Bx ⟨bare w, [(w, fun k => k ≠ R)]⟩ [(C2, [.int .i64 5, .int .i64 0, .string ⟨#[]⟩, .slice none 0 0, vx]), (C1, [.int .i64 0, .int .i64 0, .string ⟨#[]⟩, .slice none 0 0, .slice none 0 0])] X ∧ j ≤ dt.prs.length ∧ pos = p + 1 + ((dt.prs.take j).flatMap (fun p : ByteArray × Tr => 1 :: (p.1.data.toList ++ (0 :: p.2.kb)))).length ∧ s.data.toList.drop pos = (dt.prs.drop j).flatMap (fun p : ByteArray × Tr => 1 :: (p.1.data.toList ++ (0 :: p.2.kb))) ++ (0 :: post) ∧ Box X R [.string s, .int .i64 ((pos : Nat) : Int), .int .u8 0, .int .i64 0] ∧ RowE EF 78 6 w.heap.size (fun x => x = C2 ∨ x = C1) X vx (dt.prs.take j)) (fun _ X => s.size + 1 - atR R X) ⟨0, p + 1, _, hf.sub (sub_cons rfl (sub_cons rfl (sub_cons rfl (sub_cons rfl (sub_nil))))), hX, Nat.zero_le _, rfl, (by rw [List.drop_zero]; rw [List.append_assoc] at hp0; exact hp0), hRb, RowE.nil W⟩ ?_)
 clear hf hX hRb hge
 rintro a W ⟨j, pos, vx, hf, hX, hj, hpos, hdr, hRb, hL⟩
 have hat0 := atR_eq hRb
 have hps : pos < s.size := by rcases Nat.lt_or_ge pos s.data.toList.length with h | h; rwa [size_list] at h; rw [List.drop_eq_nil_of_le h] at hdr; exact absurd (congrArg List.length hdr) (by simp)
 have hjp := len_le_flat (f := (fun p : ByteArray × Tr => 1 :: (p.1.data.toList ++ (0 :: p.2.kb)))) (fun x => by simp) (dt.prs.take j)
 rw [List.length_take] at hjp
 have hcnt : (dt.prs.take j).length < 1000000000 := by rw [List.length_take]; omega
 rcases Nat.lt_or_ge j dt.prs.length with hjl | hjl
 ·
  obtain ⟨⟨m, t⟩, hpt⟩ : ∃ t, dt.prs[j]? = some t := ⟨_, List.getElem?_eq_getElem hjl⟩
  have hdj : dt.prs.drop j = (m, t) :: dt.prs.drop (j + 1) := by rw [List.drop_eq_getElem_cons hjl]; congr 1; exact Option.some.inj ((List.getElem?_eq_getElem hjl).symm.trans hpt)
  have htk : dt.prs.take j ++ [(m, t)] = dt.prs.take (j + 1) := by rw [List.take_add_one, hpt]; rfl
  have hst : ((dt.prs.take (j + 1)).flatMap (fun p : ByteArray × Tr => 1 :: (p.1.data.toList ++ (0 :: p.2.kb)))).length = ((dt.prs.take j).flatMap (fun p : ByteArray × Tr => 1 :: (p.1.data.toList ++ (0 :: p.2.kb)))).length + ((fun p : ByteArray × Tr => 1 :: (p.1.data.toList ++ (0 :: p.2.kb))) (m, t)).length := by rw [flat_step hpt, List.length_append]
  rw [hdj, List.flatMap_cons, List.append_assoc] at hdr
  obtain ⟨rst, hrst⟩ : ∃ r, r = (dt.prs.drop (j + 1)).flatMap (fun p : ByteArray × Tr => 1 :: (p.1.data.toList ++ (0 :: p.2.kb))) ++ (0 :: post) := ⟨_, rfl⟩
  rw [← hrst] at hdr
  obtain ⟨hb1, hdr1⟩ := drop_one hdr
  have hmem := List.mem_of_getElem? hpt
  obtain ⟨hmn, htl⟩ := prs_nm dt _ hmem
  obtain ⟨hm32, hmz⟩ : m.size ≤ 32 ∧ ∀ c ∈ m.data.toList, c ≠ 0 := isN_ne (isN_of [] _ _ hnm hmn)
  replace hdr1 : s.data.toList.drop (pos + 1) = m.data.toList ++ (0 :: (t.kb ++ rst)) := by rw [hdr1]; show (m.data.toList ++ 0 :: t.kb).append rst = _; exact List.append_assoc _ _ _
  have hmk : mkS m.data.toList = m := by obtain ⟨⟨l⟩⟩ := m; rfl
  have hml : m.data.toList.length = m.size := size_list m
  have hdr2 : s.data.toList.drop (pos + 1 + m.data.toList.length + 1) = t.kb ++ rst := by have := drop_next (pre := m.data.toList ++ [0]) (by rw [hdr1, List.append_assoc]; rfl); rw [List.length_append] at this; exact this
  have hdr3 := drop_next hdr2
  have htsz := Tr.sz_lst dt t htl
  have hdl := dep_le dt t htl
  have hts := snd_of dt t hls htl
  obtain ⟨htw, htv⟩ := wfT_lst dt hwt t htl
  refine gc hf ?_
  intro a hf
  refine sv_call hf fnOK_80 rfl (more_any R s hs pos true hb1 _ hRb) dd ?_
  rintro e W2 ⟨rfl, hb, hg⟩
  replace hL := hL.grown ekF hg hRw
  replace hX := hX.grown hg (fun k e => by obtain rfl := Option.some.inj e; exact ⟨Nat.zero_le _, (by intro x hx e; simp only [List.mem_cons, List.not_mem_nil, or_false] at hx; rcases hx with rfl | rfl; exact hneC2 e.symm; exact hneC1 e.symm), fun p hp _ => by rw [List.mem_singleton.1 hp]; exact fun h => h rfl⟩)
  replace hRb := hb
  clear hb hg
  obtain ⟨W, hWW⟩ : ∃ X, X = W2 := ⟨_, rfl⟩
  subst hWW
  refine ⟨_, rfl, fun a hf => ?_⟩
  refine go hf ?_
  intro a hf
  refine wp_block ?_
  refine gc hf ?_
  intro a hf
  refine sv_call hf fnOK_81 rfl (name_any R s hs (pos + 1) m.data.toList (t.kb ++ rst) hmz (by rw [hml]; omega) hdr1 _ hRb) dd ?_
  rintro e W2 ⟨rfl, hb, hg⟩
  replace hL := hL.grown ekF hg hRw
  replace hX := hX.grown hg (fun k e => by obtain rfl := Option.some.inj e; exact ⟨Nat.zero_le _, (by intro x hx e; simp only [List.mem_cons, List.not_mem_nil, or_false] at hx; rcases hx with rfl | rfl; exact hneC2 e.symm; exact hneC1 e.symm), fun p hp _ => by rw [List.mem_singleton.1 hp]; exact fun h => h rfl⟩)
  replace hRb := hb
  clear hb hg
  obtain ⟨W, hWW⟩ : ∃ X, X = W2 := ⟨_, rfl⟩
  subst hWW
  refine ⟨_, rfl, fun a hf => ?_⟩
  rw [hmk] at hf
  refine go hf ?_
  intro a hf
  refine wp_region_ordW 12 11 [(0, 0), (1, 1), (2, 0), (3, 0), (4, 0), (5, 0), (6, 2), (7, 0), (8, 2), (9, 2), (10, 0), (11, 3)] (fun X => Bx ⟨bare w, [(w, fun k => k ≠ R)]⟩ [(C2, [.int .i64 5, .int .i64 0, .string ⟨#[]⟩, .slice none 0 0, vx]), (C1, [.int .i64 0, .int .i64 0, .string ⟨#[]⟩, .slice none 0 0, .slice none 0 0])] X) mixed (by kernel_rfl) hX.drew (fun c a d v w h => by cases d <;> exact h) ?_
  replace hX := hX.drew
  replace hRb := hRb.drew
  replace hL := hL.below ekF (Below.refl _ _).drew
  refine o0 hf fun a hf => ?_
  refine ov1 (v := vx) hf rfl rfl dd rfl (fun X hS => ex_vlc (cs := [.int .i64 5, .int .i64 0, .string ⟨#[]⟩, .slice none 0 0, vx]) hf rfl rfl (hS.get (i := 0) rfl) rfl u27 rfl) (fun a hf => ?_)
  refine o0 hf fun a hf => ?_
  refine o0 hf fun a hf => ?_
  refine o0 hf fun a hf => ?_
  refine ov0 (v := .int .i64 (dp + 1)) hf rfl rfl dd rfl (fun X => ex_addk hf rfl rfl rfl (wrap_in (by omega))) (fun a hf => ?_)
  have hlC2 := (hX.get (i := 0) rfl).lt
  have hlC1 := (hX.get (i := 1) rfl).lt
  refine ov2c hf rfl rfl dd rfl rfl fnOK_54 rfl (hn t (by omega) htv _ R s (pos + 1 + m.data.toList.length + 1) (dp + 1) rst hs9 (.inl hts) htw (by omega) (by omega) hdr2 hRb) ?_
  rintro e W2 ⟨cs, rfl, hvt, hb, hg⟩
  have hG : ∀ x, _ ≤ x → w.heap.size ≤ x ∧ vx.ownBlock ≠ some x ∧ ¬ (fun x => x = C2 ∨ x = C1) x := fun x hx => ⟨Nat.le_trans (hX.bas _ List.mem_cons_self).1 hx, fun e => absurd (hL.own x e).2.1 (Nat.not_lt_of_le hx), fun e => by rcases e with rfl | rfl; exact absurd hlC2 (Nat.not_lt_of_le hx); exact absurd hlC1 (Nat.not_lt_of_le hx)⟩
  replace hL := hL.grown ekF hg hRw
  replace hX := hX.grown hg (fun k e => by obtain rfl := Option.some.inj e; exact ⟨Nat.zero_le _, (by intro x hx e; simp only [List.mem_cons, List.not_mem_nil, or_false] at hx; rcases hx with rfl | rfl; exact hneC2 e.symm; exact hneC1 e.symm), fun p hp _ => by rw [List.mem_singleton.1 hp]; exact fun h => h rfl⟩)
  replace hRb := hb
  clear hb hg
  obtain ⟨W, hWW⟩ : ∃ X, X = W2 := ⟨_, rfl⟩
  subst hWW
  refine ⟨_, rfl, hX, fun a hf => ?_⟩
  have hge : w.heap.size ≤ W.heap.size := (hX.bas _ List.mem_cons_self).1
  have hcs5 := hvt.len
  have hones5 := hvt.ones
  have hcs6 : (Value.string m :: cs).length = 6 := by rw [List.length_cons, hcs5]
  have hones : ∀ u ∈ (Value.string m :: cs), u.oneCell' = true := fun u hu => by rcases List.mem_cons.1 hu with rfl | hu; rfl; exact hones5 u hu
  refine ov0 (v := .agg (.string m :: cs).toArray) hf rfl rfl dd rfl (fun X => ex_bldF hf rfl rfl rfl hcs5) (fun a hf => ?_)
  refine ov2_bsE (cs := (.string m :: cs)) hf hX rfl rfl dd rfl rfl rfl u27 zB_fld info_fld hcs6 dd dd (fun _ h => h) (fun a G3 W hC hf hX hA => ?_)
  replace hRb := hRb.keep hA
  replace hL := hL.below ekF hA
  replace hvt := hvt.below hA
  clear hC hA
  replace hX : Bx ⟨bare w, [(w, fun k => k ≠ R)]⟩ [(G3, (.string m :: cs)), (C2, [.int .i64 5, .int .i64 0, .string ⟨#[]⟩, .slice none 0 0, vx]), (C1, [.int .i64 0, .int .i64 0, .string ⟨#[]⟩, .slice none 0 0, .slice none 0 0])] W := hX
  have hlC2 := (hX.get (i := 1) rfl).lt
  have hlC1 := (hX.get (i := 2) rfl).lt
  refine ov2_appE (pe := (m, t)) ekF hf hX rfl rfl dd rfl rfl rfl rfl u27 einfo3_fld rfl dd hcs6 hones hcnt dd hL ((hX.bas _ List.mem_cons_self).1) ⟨cs, rfl, (by show m.size ≤ _; unfold maxLen; omega), hvt⟩ hG (by intro x hx; rcases hx with rfl | rfl; exact hlC2; exact hlC1) (by intro x hx; simp only [List.mem_cons, List.not_mem_nil, or_false] at hx; rcases hx with rfl | rfl; exact Or.inl rfl; exact Or.inr rfl) (Nat.zero_le _) (fun p hp => by rw [List.mem_singleton.1 hp]; exact Nat.le_refl _) (fun _ h => h) (fun a v4 W hf hX hL2 hg => ?_)
  replace hRb := hRb.grow_own hg (fun x hx => (hL.own x hx).1) hRw
  replace hL := hL2
  clear hL2 hg
  obtain ⟨a_v4, c_v4, e_v4⟩ := hL.sl
  subst e_v4
  refine o0 hf fun a hf => ?_
  have hbS := hX.get (i := 0) (C := C2) (cs := [.int .i64 5, .int .i64 0, .string ⟨#[]⟩, .slice none 0 0, vx]) rfl
  refine ov3 rfl rfl rfl (ex_store_cell _ _ _ C2 4 (.slice a_v4 ((dt.prs.take j ++ [(m, t)]).length) c_v4) rfl (hf.ev rfl) (hf.ev rfl) (hbS.there 4 1 dd) info_flds rfl) ?_
  replace hX := hX.set (i := 0) rfl (hbS.setCell 4 (.slice a_v4 ((dt.prs.take j ++ [(m, t)]).length) c_v4) (of_decide_eq_true rfl)) (Only.setCell _ C2 4 _)
  replace hRb := hRb.other (Only.setCell _ C2 4 (.slice a_v4 ((dt.prs.take j ++ [(m, t)]).length) c_v4)) hneC2
  replace hL := hL.only ekF (Only.setCell _ C2 4 (.slice a_v4 ((dt.prs.take j ++ [(m, t)]).length) c_v4)) (Or.inl rfl)
  replace hRb : Box (World.setCells _ C2 4 [.slice a_v4 ((dt.prs.take j ++ [(m, t)]).length) c_v4]) _ _ := hRb
  replace hL : RowE _ _ _ _ _ (World.setCells _ C2 4 [.slice a_v4 ((dt.prs.take j ++ [(m, t)]).length) c_v4]) _ _ := hL
  clear hbS
  refine wpOrd_nil ?_
  rw [htk] at hL hRb hX ⊢
  have hat1 := atR_eq hRb
  have hGl : ((fun p : ByteArray × Tr => 1 :: (p.1.data.toList ++ (0 :: p.2.kb))) (m, t)).length = 1 + (m.data.toList.length + (1 + t.kb.length)) := by simp only [List.length_cons, List.length_append]; omega
  rw [hGl] at hst
  exact ⟨⟨j + 1, _, _, hf.sub (sub_cons rfl (sub_cons rfl (sub_cons rfl (sub_cons rfl (sub_nil))))), hX, hjl, by omega, by rw [← hrst]; exact hdr3, hRb, hL⟩, by show s.size + 1 - atR R _ < _; rw [hat1, hat0]; omega⟩
 ·
  obtain rfl : j = dt.prs.length := by omega
  rw [List.drop_length, List.flatMap_nil, List.nil_append] at hdr
  obtain ⟨hb1, _⟩ := drop_one hdr
  rw [List.take_length] at hL hpos
  refine gc hf ?_
  intro a hf
  refine sv_call hf fnOK_80 rfl (more_any R s hs pos false hb1 _ hRb) dd ?_
  rintro e W2 ⟨rfl, hb, hg⟩
  replace hL := hL.grown ekF hg hRw
  replace hX := hX.grown hg (fun k e => by obtain rfl := Option.some.inj e; exact ⟨Nat.zero_le _, (by intro x hx e; simp only [List.mem_cons, List.not_mem_nil, or_false] at hx; rcases hx with rfl | rfl; exact hneC2 e.symm; exact hneC1 e.symm), fun p hp _ => by rw [List.mem_singleton.1 hp]; exact fun h => h rfl⟩)
  replace hRb := hb
  clear hb hg
  obtain ⟨W, hWW⟩ : ∃ X, X = W2 := ⟨_, rfl⟩
  subst hWW
  refine ⟨_, rfl, fun a hf => ?_⟩
  refine go hf ?_
  intro a hf
  refine wp_exit ?_
  try simp only [Exit.inBlock, Exit.then, ↓reduceIte]
  obtain ⟨va, vc, hva⟩ := hL.sl
  subst hva
  refine gc hf ?_
  intro a hf
  refine sv_lr hf hX rfl 0 rfl u29 info_val dd (fun a hf => ?_)
  refine sv_sr hf hX rfl rfl 1 rfl rfl info_val (ones_of rfl) [(C2, [.int .i64 5, .int .i64 0, .string ⟨#[]⟩, .slice none 0 0, .slice va dt.prs.length vc]), (C1, [.int .i64 5, .int .i64 0, .string ⟨#[]⟩, .slice none 0 0, .slice va dt.prs.length vc])] rfl (fun W hX hO => ?_)
  replace hRb := hRb.other hO hneC1
  replace hL := hL.only ekF hO (Or.inr rfl)
  clear hO
  refine go hf ?_
  intro a hf
  have hfin := hL.fat
  rw [ofF_prs _ hlL] at hfin
  exact bodyPost_ret (res_cellV (c := 4) (C := C1) (cs := [.int .i64 5, .int .i64 0, .string ⟨#[]⟩, .slice none 0 0, .slice va dt.prs.length vc]) (T := 29) rfl (hf.rel 4 _ rfl) (hX.get (i := 1) rfl) u29 info_val) hf.defers ⟨_, rfl, (VAt.mk (by decide) (by decide) (by decide) (LAt.nil _ _) hfin), (by rw [List.length_cons, List.length_append, List.length_singleton]; rw [show p + ((dt.prs.flatMap (fun p : ByteArray × Tr => 1 :: (p.1.data.toList ++ (0 :: p.2.kb)))).length + 1 + 1) = pos + 1 by omega]; exact hRb), ⟨hX.low.os, hX.low.tape, hX.low.output, (hX.bas _ List.mem_cons_self).1, fun k hk hne => (hX.bas _ List.mem_cons_self).2 k hk (fun e => hne (by rw [e]))⟩⟩
theorem isL_nil {l : Tr} (h : l.isL = true) (h0 : l.len = 0) : l = .nil := by
 cases l with
 | nil => rfl
 | lcons t r => exact absurd h0 (by show ¬ (r.lst.length + 1 = 0); omega)
 | mk _ _ _ _ _ => cases h
 | fcons _ _ _ => cases h
theorem isF_nil {l : Tr} (h : l.isF = true) (h0 : l.len = 0) : l = .nil := by
 cases l with
 | nil => rfl
 | fcons _ t r => exact absurd h0 (by show ¬ (r.lst.length + 1 = 0); omega)
 | mk _ _ _ _ _ => cases h
 | lcons _ _ => cases h
theorem snd_nf {k n : Int} {s : ByteArray} {l d : Tr} (h : (Tr.mk k n s l d).snd = true) (hw : wfT (.mk k n s l d)) :
  ((k = 1 ∨ k = 2 ∨ k = 11) ∧ n = 0 ∧ s = ⟨#[]⟩ ∧ l = .nil ∧ d = .nil) ∨ ((k = 3 ∨ k = 9 ∨ k = 10) ∧ s = ⟨#[]⟩ ∧ l = .nil ∧ d = .nil ∧ (k = 9 → n = 0 ∨ n = 1) ∧ (k = 10 → 0 ≤ n)) ∨ ((k = 4 ∨ k = 7 ∨ k = 8) ∧ n = 0 ∧ s.size ≤ 4096 ∧ l = .nil ∧ d = .nil ∧ (k = 8 → s.size = 12)) ∨ (k = 6 ∧ n = 0 ∧ s = ⟨#[]⟩ ∧ d = .nil ∧ l.snd = true) ∨ (k = 5 ∧ n = 0 ∧ s = ⟨#[]⟩ ∧ l = .nil ∧ d.snd = true ∧ Tr.nmsOK [] d.nms = true) := by
 obtain ⟨_, _, _, _, _, hL, hD, _, _⟩ := hw
 unfold Tr.snd at h
 simp only [Bool.and_eq_true] at h
 obtain ⟨⟨⟨⟨h1, h2⟩, h3⟩, h4⟩, h5⟩ := h
 have c1 : ∀ {P : Prop}, [Decidable P] → k ≠ 3 → k ≠ 9 → k ≠ 10 → (Tr.kI k || decide P) = true → P := fun a b c h => by
  simp [Tr.kI, a, b, c] at h
  exact h
 have c2 : ∀ {P : Prop}, [Decidable P] → k ≠ 4 → k ≠ 7 → k ≠ 8 → (Tr.kT k || decide P) = true → P := fun a b c h => by
  simp [Tr.kT, a, b, c] at h
  exact h
 have c3 : k ≠ 6 → l = .nil := fun a => isL_nil hL (by simpa [a] using h3)
 have c4 : k ≠ 5 → d = .nil := fun a => isF_nil hD (by simpa [a] using h4)
 by_cases e1 : k = 1 ∨ k = 2 ∨ k = 11
 ·exact .inl ⟨e1, c1 (by omega) (by omega) (by omega) h1, empty_size (c2 (by omega) (by omega) (by omega) h2), c3 (by omega), c4 (by omega)⟩
 by_cases e2 : k = 3 ∨ k = 9 ∨ k = 10
 ·refine .inr (.inl ⟨e2, empty_size (c2 (by omega) (by omega) (by omega) h2), c3 (by omega), c4 (by omega), fun e => ?_, fun e => ?_⟩)
  ·subst e
   simpa using h5
  ·subst e
   simpa using h5
 by_cases e3 : k = 4 ∨ k = 7 ∨ k = 8
 ·refine .inr (.inr (.inl ⟨e3, c1 (by omega) (by omega) (by omega) h1, ?_, c3 (by omega), c4 (by omega), fun e => ?_⟩))
  ·rcases e3 with e | e | e <;> subst e
   ·simp at h5
    exact h5.1
   ·simpa using h5
   ·simp at h5
    omega
  ·subst e
   simpa using h5
 by_cases e4 : k = 6
 ·subst e4
  exact .inr (.inr (.inr (.inl ⟨rfl, c1 (by omega) (by omega) (by omega) h1, empty_size (c2 (by omega) (by omega) (by omega) h2), c4 (by omega), by simpa using h5⟩)))
 by_cases e5 : k = 5
 ·subst e5
  refine .inr (.inr (.inr (.inr ⟨rfl, c1 (by omega) (by omega) (by omega) h1, empty_size (c2 (by omega) (by omega) (by omega) h2), c3 (by omega), ?_⟩)))
  simpa using h5
 ·have x1 : ¬ (k = 1 ∨ k = 2 ∨ k = 11 ∨ k = 3) := by omega
  have x2 : k ≠ 9 := by omega
  have x3 : k ≠ 10 := by omega
  have x4 : k ≠ 4 := by omega
  have x5 : k ≠ 7 := by omega
  have x6 : k ≠ 8 := by omega
  rw [if_neg x1, if_neg x2, if_neg x3, if_neg x4, if_neg x5, if_neg x6, if_neg e4, if_neg e5] at h5
  cases h5
theorem rdC_all : ∀ n, RdC n
 | 0, t, ht, hv, _, _, _, _, _, _, _, _, _, _, _, _, _ => by
  cases t with
  | mk k m s l d => simp only [Tr.sz] at ht; omega
  | nil => cases hv
  | lcons _ _ => cases hv
  | fcons _ _ _ => cases hv
 | n + 1, t, ht, hv, w, R, s, p, dp, post, hs, hsn, hwt, hd1, hd2, hp, hRb => by
  have hn := rdC_all n
  have hs' : s.size ≤ maxLen := by unfold maxLen; omega
  cases t with
  | nil => cases hv
  | lcons _ _ => cases hv
  | fcons _ _ _ => cases hv
  | mk k m x l d =>
   have hd3 : 1 ≤ (Tr.mk k m x l d).dep := Nat.le_add_right _ _
   have hdp : dp ≤ 16 := by omega
   simp only [Tr.sz] at ht
   have key : (Tr.mk k m x l d).snd = true → Calls Tryz.prog 54 #[.pointer (some ⟨R, 0, none⟩), .int .i64 dp] w fun e w' => ∃ cs, e = .returned (.agg cs.toArray) ∧ VAt w' (fun k => w.heap.size ≤ k) (Tr.mk k m x l d) cs ∧ Box w' R [.string s, .int .i64 ((p + (Tr.mk k m x l d).kb.length : Nat) : Int), .int .u8 0, .int .i64 0] ∧ w.grownBy w' (some R) := by
    intro h
    obtain ⟨_, wm, _, _, _, wL, wD, wl, wd⟩ := id hwt
    rcases snd_nf h hwt with ⟨hk, rfl, rfl, rfl, rfl⟩ | ⟨hk, rfl, rfl, rfl, _⟩ | ⟨hk, rfl, hx, rfl, rfl, _⟩ | ⟨rfl, rfl, rfl, rfl, hls⟩ | ⟨rfl, rfl, rfl, rfl, hls, hnm⟩
    ·rcases hk with rfl | rfl | rfl
     ·exact rd_K1 w R s p dp post hs' hd1 hdp hp hRb
     ·exact rd_K2 w R s p dp post hs' hd1 hdp hp hRb
     ·exact rd_K11 w R s p dp post hs' hd1 hdp hp hRb
    ·rcases hk with rfl | rfl | rfl
     ·exact rd_K3 m wm w R s p dp post hs' hd1 hdp hp hRb
     ·exact rd_K9 m wm w R s p dp post hs' hd1 hdp hp hRb
     ·exact rd_K10 m wm w R s p dp post hs' hd1 hdp hp hRb
    ·rcases hk with rfl | rfl | rfl
     ·exact rd_K4 x (by omega) w R s p dp post hs' hd1 hdp hp hRb
     ·exact rd_K7 x (by omega) w R s p dp post hs' hd1 hdp hp hRb
     ·exact rd_K8 x (by omega) w R s p dp post hs' hd1 hdp hp hRb
    ·exact rd_K6 hn l wL (by omega) hls wl w R s p dp post hs hd1 hd2 hp hRb
    ·exact rd_K5 hn d wD (by omega) hls hnm wd w R s p dp post hs hd1 hd2 hp hRb
   rcases hsn with h | ⟨hd0, h⟩
   ·exact key h
   ·by_cases hk : k = 0
    ·subst hk
     obtain ⟨_, wm, _, _, _, wL, wD, _, _⟩ := id hwt
     simp only [Tr.allowed, if_true, Bool.and_eq_true, decide_eq_true_eq] at h
     obtain ⟨⟨⟨rfl, h2⟩, h3⟩, h4⟩ := h
     obtain rfl := empty_size h2
     obtain rfl := isL_nil wL h3
     obtain rfl := isF_nil wD h4
     exact rd_K0 w R s p dp post hs' hd1 hdp hd0 hp hRb
    ·refine key ?_
     simp only [Tr.allowed, if_neg hk, Tr.valid, Bool.and_eq_true] at h
     exact h.2
theorem allowed_dep {t : Tr} (hv : t.isV = true) (h : t.allowed = true) : 1 + ((t.dep : Nat) : Int) ≤ 17 := by
 cases t with
 | nil => cases hv
 | lcons _ _ => cases hv
 | fcons _ _ _ => cases hv
 | mk k m x l d =>
  by_cases hk : k = 0
  ·subst hk
   show 1 + (((1 + 0 : Nat) : Nat) : Int) ≤ 17
   decide
  ·simp only [Tr.allowed, if_neg hk, Tr.valid, Bool.and_eq_true, decide_eq_true_eq] at h
   omega
theorem kDecode_any (t : Tr) (htv : t.isV = true) (hta : t.allowed = true) (htw : wfT t) (hlen : t.kb.length ≤ 1000000000) (w : World) (DB DO dc : Nat) (hU : U8 w) (hdc : w.cell? ⟨DB, DO, none⟩ = some (.bool false)) (hDB : DB < w.heap.size) : Calls Tryz.prog 28 #[.string (mkS t.kb), .slice (some ⟨DB, DO, none⟩) 1 dc] w fun e w' => ∃ v, e = .returned (.tuple #[v, .int .i64 0]) ∧ LAt w' (fun k => w.heap.size ≤ k) (.lcons t .nil) v ∧ Below w.heap.size w w' := by
 have hdep := allowed_dep htv hta
 refine cv2 Tryz.func28 rfl rfl rfl fun a hf => ?_
 have hX := Bx.start w
 refine gc hf ?_
 intro a hf
 refine sv_build (cs := [.string (mkS t.kb), .int .i64 0, .int .u8 0, .int .i64 0]) hf rfl (by kernel_rfl) dd (fun a hf => ?_)
 refine sv_alloc (zs := [.string ⟨#[]⟩, .int .i64 0, .int .u8 0, .int .i64 0]) hf hX zero_krd dd (fun a C1 W hC hf hX hA => ?_)
 clear hC hA
 refine sv_sr hf hX rfl rfl 0 rfl rfl info_krd (ones_of rfl) [(C1, [.string (mkS t.kb), .int .i64 0, .int .u8 0, .int .i64 0])] rfl (fun W hX hO => ?_)
 clear hO
 refine go hf ?_
 intro a hf
 refine sv_len hf rfl Tryz.underlying35 dd (fun a hf => ?_)
 refine go hf ?_
 intro a hf
 replace hX : Bx ⟨w, []⟩ [(C1, [.string (mkS t.kb), .int .i64 ((0 * t.kb.length : Nat) : Int), .int .u8 0, .int .i64 0])] W := by rw [Nat.zero_mul]; exact hX
 refine wp_block (wp_loop (fun a X => ∃ (q : Nat) (vx : Value), FrV 42 [(0, .string (mkS t.kb)), (6, .pointer (some ⟨C1, 0, none⟩)), (7, vx), (13, .slice (some ⟨DB, DO, none⟩) 1 dc), (14, .int .i64 1), (15, .int .i64 (q : Int))] a ∧ Bx ⟨w, []⟩ [(C1, [.string (mkS t.kb), .int .i64 ((q * t.kb.length : Nat) : Int), .int .u8 0, .int .i64 0])] X ∧ q ≤ 1 ∧ RowE VAt 29 5 w.heap.size (fun x => x = C1) X vx (List.replicate q t)) (fun a _ => 1 - (intOf (a.eval (.tmp 15))).toNat) ⟨0, _, hf.sub (sub_cons rfl (sub_cons rfl (sub_cons rfl (sub_cons rfl (sub_cons rfl (sub_cons rfl (sub_nil))))))), hX, Nat.zero_le _, RowE.nil W⟩ ?_)
 clear hf hX
 rintro a W ⟨q, vx, hf, hX, hq, hL⟩
 have hm15 : a.eval (.tmp 15) = .int .i64 (q : Int) := hf.rel 15 _ rfl
 rcases Decidable.em ((q : Int) < 1) with hgo | hgo
 ·
  refine gc hf ?_
  intro a hf
  refine ct hf hgo fun a hf => ?_
  refine go hf ?_
  intro a hf
  refine wp_block ?_
  have hq0 : q = 0 := by omega
  refine gc hf ?_
  intro a hf
  refine sv_idx (k := 1) (q := q) hf rfl rfl (by omega) Tryz.underlying35 einfo_bools dd (fun a hf => ?_)
  refine sv_lm hf rfl (by rw [hq0, Nat.zero_mul, Nat.add_zero]; exact (cell_of_block2 (hX.low.block DB hDB)).trans hdc) u4 rfl dd (fun a hf => ?_)
  refine go hf ?_
  intro a hf
  refine sv_sc (cs' := [.string (mkS t.kb), .int .i64 ((q * t.kb.length : Nat) : Int), .int .u8 0, .int .i64 0]) hf hX rfl rfl 0 rfl dd rfl info_u8 rfl [(C1, [.string (mkS t.kb), .int .i64 ((q * t.kb.length : Nat) : Int), .int .u8 0, .int .i64 0])] rfl (fun W hX hO => ?_)
  replace hL := hL.only ekV hO (rfl)
  clear hO
  refine go hf ?_
  intro a hf
  obtain ⟨n0, hn0⟩ : ∃ n, n = W.heap.size := ⟨_, rfl⟩
  have hown : ∀ x, vx.ownBlock = some x → x < n0 := fun x hx => by rw [hn0]; exact (hL.own x hx).2.1
  have hl1 : C1 < n0 := by rw [hn0]; exact (hX.get (i := 0) rfl).lt
  have hn0w : w.heap.size ≤ n0 := by rw [hn0]; exact hX.low.size
  refine sv_call hf fnOK_54 rfl (rdC_all _ t (Nat.le_refl _) htv _ C1 (mkS t.kb) (q * t.kb.length) 1 [] hlen (.inr ⟨rfl, hta⟩) htw dd hdep (by rw [hq0, Nat.zero_mul, List.drop_zero, List.append_nil]; rfl) (hX.get (i := 0) rfl)) dd ?_
  rintro e W2 ⟨cs, rfl, hvt, hb, hg⟩
  replace hL := hL.keep ekV hg.size (fun x _ hl hn => hg.block x hl (fun e => hn (Option.some.inj e)))
  rw [← hn0] at hvt
  replace hX : Bx ⟨w, []⟩ [(C1, [.string (mkS t.kb), .int .i64 ((q * t.kb.length + t.kb.length : Nat) : Int), .int .u8 0, .int .i64 0])] W2 := hX.turn (i := 0) rfl hg hb
  clear hb hg
  obtain ⟨W, hWW⟩ : ∃ X, X = W2 := ⟨_, rfl⟩
  subst hWW
  obtain ⟨n1, hn1⟩ : ∃ n, n = W.heap.size := ⟨_, rfl⟩
  replace hvt := hvt.kept (G := fun x => n0 ≤ x ∧ x < n1) (Nat.le_refl _) (fun _ _ _ => rfl) (fun x hx hl => ⟨hx, by omega⟩)
  have hcs5 := hvt.len
  have hones5 := hvt.ones
  refine ⟨_, rfl, fun a hf => ?_⟩
  refine sv_alloc (zs := [.int .i64 0, .int .i64 0, .string ⟨#[]⟩, .slice none 0 0, .slice none 0 0]) hf hX zero_val dd (fun a C2 W hC hf hX hA => ?_)
  replace hL := (hL.weaken (M := (fun x => x = C1 ∨ x = C2)) (fun x hl hx => by rcases hx with h | h; exact h; omega)).below ekV hA
  replace hvt := hvt.below hA
  have h1C2 : C2 = n1 := hC.trans hn1.symm
  clear hC hA
  refine sv_sr hf hX rfl rfl 0 rfl (by show cs.length = _; rw [hcs5]; rfl) (by rw [hcs5]; exact info_val) hones5 [(C2, cs), (C1, [.string (mkS t.kb), .int .i64 ((q * t.kb.length + t.kb.length : Nat) : Int), .int .u8 0, .int .i64 0])] rfl (fun W hX hO => ?_)
  replace hL := hL.only ekV hO (Or.inr rfl)
  replace hvt := hvt.kept (G := fun x => n0 ≤ x ∧ x < n1) (Nat.le_of_eq hO.size.symm) (fun x hx _ => hO.heap x (by omega)) (fun _ h _ => h)
  clear hO
  refine go hf ?_
  intro a hf
  refine sv_lr (cs := cs) hf hX rfl 0 rfl u29 (by rw [hcs5]; exact info_val) dd (fun a hf => ?_)
  refine sv_call hf fnOK_15 rfl (allowed_any t _ _ cs (hU.below hX.low) hvt) dd ?_
  rintro e W ⟨rfl, hb⟩
  replace hX := hX.keep hb
  replace hL := hL.below ekV hb
  replace hvt := hvt.below hb
  clear hb
  rw [hta]
  refine ⟨_, rfl, fun a hf => ?_⟩
  refine go hf ?_
  intro a hf
  refine sv_lr (cs := cs) hf hX rfl 0 rfl u29 (by rw [hcs5]; exact info_val) dd (fun a hf => ?_)
  refine sv_bs1 (cs := cs) hf hX rfl u26 zB_val info_val hcs5 dd dd dd (fun a G3 W hC hf hX hA => ?_)
  replace hL := hL.below ekV hA
  replace hvt := hvt.below hA
  clear hC hA
  replace hX : Bx ⟨w, []⟩ [(G3, cs), (C2, cs), (C1, [.string (mkS t.kb), .int .i64 ((q * t.kb.length + t.kb.length : Nat) : Int), .int .u8 0, .int .i64 0])] W := hX
  have hlC2 := (hX.get (i := 1) rfl).lt
  have hlC1 := (hX.get (i := 2) rfl).lt
  refine sv_appE (pe := t) ekV hf hX rfl rfl u26 einfo3_val rfl dd hcs5 hones5 (by rw [List.length_replicate]; omega) dd hL hX.low.size hvt (fun x hx => ⟨by omega, fun e => by have := hown x e; omega, fun e => by rcases e with h | h <;> omega⟩) (by intro x hx; rcases hx with rfl | rfl; exact hlC1; exact hlC2) (by intro x hx; simp only [List.mem_cons, List.not_mem_nil, or_false] at hx; rcases hx with rfl | rfl; exact Or.inr rfl; exact Or.inl rfl) (Nat.le_refl _) (fun p hp => by cases hp) dd (fun a v4 W hf hX hL2 hg => ?_)
  replace hL := hL2
  clear hL2 hg hvt
  refine go hf ?_
  intro a hf
  refine sv_add ((q + 1 : Nat) : Int) hf rfl rfl (by rw [wrap_in (by omega)]; rfl) dd (fun a hf => ?_)
  refine go hf ?_
  intro a hf
  have hes : List.replicate q t ++ [t] = List.replicate (q + 1) t := by rw [hq0]; rfl
  rw [hes] at hL
  rw [show q * t.kb.length + t.kb.length = (q + 1) * t.kb.length from (Nat.succ_mul _ _).symm] at hX
  refine ⟨⟨q + 1, _, hf.sub (sub_cons rfl (sub_cons rfl (sub_cons rfl (sub_cons rfl (sub_cons rfl (sub_cons rfl (sub_nil))))))), hX.sub, by omega, hL.weaken (fun x _ h => Or.inl h)⟩, ?_⟩
  have h5 : a.eval (.tmp 15) = .int .i64 ((q + 1 : Nat) : Int) := hf.rel 15 _ rfl
  rw [h5, hm15]; simp only [intOf, Int.toNat_natCast]; omega
 ·
  refine gc hf ?_
  intro a hf
  refine cf hf hgo fun a hf => ?_
  refine go hf ?_
  intro a hf
  refine wp_exit ?_
  simp only [Exit.inBlock, Exit.then, ↓reduceIte]
  obtain rfl : q = 1 := by omega
  rw [Nat.one_mul] at hX
  refine gc hf ?_
  intro a hf
  refine sv_lens hf rfl u9 dd (fun a hf => ?_)
  refine sv_cmp hf rfl rfl false (congrArg some (decide_eq_false (Int.lt_irrefl _))) dd (fun a hf => ?_)
  refine go hf ?_
  intro a hf
  exact bodyPost_ret (res_two (c := 4) (d := 5) (u := vx) (v := .int .i64 0) rfl (hf.rel 4 _ rfl) (hf.rel 5 _ rfl)) hf.defers ⟨_, rfl, hL.lat, hX.low⟩
theorem i64_xor0 (h : Nat) (hh : h < 9223372036854775808) : bits .xor .i64 (h : Int) 0 = (h : Int) := by
 have e0 : bits .xor .i64 (h : Int) 0 = IntKind.i64.wrap (((BitVec.ofInt 64 (h : Int)) ^^^ (BitVec.ofInt 64 0)).toNat : Nat) := rfl
 have e : ((h : Int) % ((2 ^ 64 : Nat) : Int)).toNat = h := by omega
 have e2 : ((0 : Int) % ((2 ^ 64 : Nat) : Int)).toNat = 0 := by decide
 rw [e0, BitVec.toNat_xor, BitVec.toNat_ofInt, BitVec.toNat_ofInt, e, e2, Nat.xor_zero, IntKind.wrap_i64]
 omega
theorem i64_xor1 (h : Nat) (hh : h < 9223372036854775808) : bits .xor .i64 (h : Int) (-1) = -(h : Int) - 1 := by
 have e0 : bits .xor .i64 (h : Int) (-1) = IntKind.i64.wrap (((BitVec.ofInt 64 (h : Int)) ^^^ (BitVec.ofInt 64 (-1))).toNat : Nat) := rfl
 have e : ((h : Int) % ((2 ^ 64 : Nat) : Int)).toNat = h := by omega
 have e2 : ((-1 : Int) % ((2 ^ 64 : Nat) : Int)).toNat = 18446744073709551615 := by decide
 rw [e0, BitVec.toNat_xor, BitVec.toNat_ofInt, BitVec.toNat_ofInt, e, e2, xor_ones h (by omega), IntKind.wrap_i64]
 omega
theorem u8_and127 (c : Nat) (hc : c < 256) : bits .and .u8 (c : Int) 127 = ((c % 128 : Nat) : Int) := by
 have := bits_mask .u8 8 (by decide) wraps_u8 7 (by decide) (c : Int) (by omega) (by omega)
 rw [show ((2 : Int) ^ 7 - 1) = 127 by decide] at this
 rw [this]
 omega
theorem or_disj {u g k : Nat} (hu : u < 2 ^ k) : u ||| g * 2 ^ k = u + g * 2 ^ k := by
 have := Nat.two_pow_add_eq_or_of_lt hu g
 rw [Nat.or_comm, Nat.mul_comm, ← this, Nat.add_comm]
section
variable {w : World} {N : Nat} {env : VEnv} {a : Act} {oo : Oper} {x z : Operand}
theorem ex_and127 {c : Nat} (hf : FrV N env a) (hc : c < 256) {xT zT : TypeId} (ho : oo.op = .binOp .and xT x z zT) (hx : ev env x = some (.int .u8 (c : Int))) (hz : ev env z = some (.int .u8 127)) : (execOp a.eval oo).run Tryz.prog w = .ok (.value (.int .u8 ((c % 128 : Nat) : Int))) w := by
 have hk := u8_and127 c hc
 unfold execOp
 simp only [ho, hf.ev hx, hf.ev hz]
 simp [go_sem]
 simpa using hk
theorem ex_mul7 {i : Nat} (hf : FrV N env a) (hi : i ≤ 9) {xT zT : TypeId} (ho : oo.op = .binOp .mul xT x z zT) (hx : ev env x = some (.int .i64 7)) (hz : ev env z = some (.int .i64 (i : Int))) : (execOp a.eval oo).run Tryz.prog w = .ok (.value (.int .i64 ((7 * i : Nat) : Int))) w := by
 have hw : IntKind.i64.wrap (7 * (i : Int)) = ((7 * i : Nat) : Int) := by rw [wrap_in (by omega)]; rfl
 unfold execOp
 simp only [ho, hf.ev hx, hf.ev hz]
 simp [go_sem]
 simpa using hw
theorem ex_shlS {g sh : Nat} (hf : FrV N env a) (hsh : sh ≤ 64) (hg : g * 2 ^ sh < 18446744073709551616) {xT zT : TypeId} (ho : oo.op = .binOp .shl xT x z zT) (hx : ev env x = some (.int .u64 (g : Int))) (hz : ev env z = some (.int .i64 (sh : Int))) : (execOp a.eval oo).run Tryz.prog w = .ok (.value (.int .u64 ((g * 2 ^ sh : Nat) : Int))) w := by
 have hw : IntKind.u64.wrap ((g : Int) * 2 ^ sh) = ((g * 2 ^ sh : Nat) : Int) := by
  rw [IntKind.wrap_u64]
  have : ((g : Int) * 2 ^ sh) = ((g * 2 ^ sh : Nat) : Int) := by push_cast; rfl
  rw [this]
  omega
 have hk := shift_shl .u64 .i64 (g : Int) (sh : Int) (by omega) (by show (sh : Int) ≤ 64; omega)
 rw [Int.toNat_natCast, hw] at hk
 unfold execOp
 simp only [ho, hf.ev hx, hf.ev hz]
 simp [go_sem, hk]
 rw [hw]
 push_cast
 rfl
theorem ex_orS {u g k : Nat} (hf : FrV N env a) (hu : u < 2 ^ k) (hs : u + g * 2 ^ k < 18446744073709551616) {xT zT : TypeId} (ho : oo.op = .binOp .or xT x z zT) (hx : ev env x = some (.int .u64 (u : Int))) (hz : ev env z = some (.int .u64 ((g * 2 ^ k : Nat) : Int))) : (execOp a.eval oo).run Tryz.prog w = .ok (.value (.int .u64 ((u + g * 2 ^ k : Nat) : Int))) w := by
 have hk : bits .or .u64 (u : Int) ((g * 2 ^ k : Nat) : Int) = ((u + g * 2 ^ k : Nat) : Int) := by rw [u64_or_nat _ _ (by omega) (by omega), or_disj hu]
 unfold execOp
 simp only [ho, hf.ev hx, hf.ev hz]
 simp [go_sem]
 simpa using hk
theorem ex_shr1 {u : Nat} (hf : FrV N env a) {xT zT : TypeId} (ho : oo.op = .binOp .shr xT x z zT) (hx : ev env x = some (.int .u64 (u : Int))) (hz : ev env z = some (.int .u64 1)) : (execOp a.eval oo).run Tryz.prog w = .ok (.value (.int .u64 ((u / 2 : Nat) : Int))) w := by
 unfold execOp
 simp only [ho, hf.ev hx, hf.ev hz]
 simp [go_sem]
theorem ex_cv643n {u : Nat} (hf : FrV N env a) (hu : u < 9223372036854775808) (ho : oo.op = .convert 76 3 x) (hx : ev env x = some (.int .u64 (u : Int))) : (execOp a.eval oo).run Tryz.prog w = .ok (.value (.int .i64 (u : Int))) w := by
 have hw : IntKind.i64.wrap (u : Int) = (u : Int) := wrap_in (by omega)
 unfold execOp
 simp only [ho, hf.ev hx]
 simp [go_sem, Tryz.underlying76, u3, hw]
theorem ex_and1 {u : Nat} (hf : FrV N env a) (hu : u < 18446744073709551616) {xT zT : TypeId} (ho : oo.op = .binOp .and xT x z zT) (hx : ev env x = some (.int .u64 (u : Int))) (hz : ev env z = some (.int .u64 1)) : (execOp a.eval oo).run Tryz.prog w = .ok (.value (.int .u64 ((u % 2 : Nat) : Int))) w := by
 have hk : bits .and .u64 (u : Int) 1 = ((u % 2 : Nat) : Int) := by rw [show (1 : Int) = ((1 : Nat) : Int) from rfl, u64_and_nat _ _ hu (by omega), Nat.and_one_is_mod]
 unfold execOp
 simp only [ho, hf.ev hx, hf.ev hz]
 simp [go_sem]
 simpa using hk
theorem ex_neg {m : Int} (hf : FrV N env a) (hm : 0 ≤ m ∧ m ≤ 1) {xT : TypeId} (ho : oo.op = .unOp .neg xT x) (hx : ev env x = some (.int .i64 m)) : (execOp a.eval oo).run Tryz.prog w = .ok (.value (.int .i64 (-m))) w := by
 have hw : IntKind.i64.wrap (-m) = -m := wrap_in (by omega)
 unfold execOp
 simp only [ho, hf.ev hx]
 simp [go_sem, hw]
theorem ex_zag {u : Nat} {n : Int} (hf : FrV N env a) (hn : wfI n) (hu : u = Tr.zz n) {xT zT : TypeId} (ho : oo.op = .binOp .xor xT x z zT) (hx : ev env x = some (.int .i64 ((u / 2 : Nat) : Int))) (hz : ev env z = some (.int .i64 (-((u % 2 : Nat) : Int)))) : (execOp a.eval oo).run Tryz.prog w = .ok (.value (.int .i64 n)) w := by
 have hr := wfI_r hn
 have hz64 := zz_lt hn
 have hk : bits .xor .i64 ((u / 2 : Nat) : Int) (-((u % 2 : Nat) : Int)) = n := by
  unfold Tr.zz at hu hz64
  split at hu
  ·rename_i h0
   rw [if_pos h0] at hz64
   have e1 : u % 2 = 0 := by omega
   rw [e1, show (-((0 : Nat) : Int)) = 0 from rfl, i64_xor0 _ (by omega)]
   omega
  ·rename_i h0
   rw [if_neg h0] at hz64
   have e1 : u % 2 = 1 := by omega
   rw [e1, show (-((1 : Nat) : Int)) = -1 from rfl, i64_xor1 _ (by omega)]
   omega
 unfold execOp
 simp only [ho, hf.ev hx, hf.ev hz]
 simp [go_sem]
 simpa using hk
end
theorem res_three {fn : Func} {c d e : Nat} {u v x : Value} {a : Act} {w : World} (hr : fn.results = #[.tmp c, .tmp d, .tmp e]) (hc : a.eval (.tmp c) = u) (hd : a.eval (.tmp d) = v) (he : a.eval (.tmp e) = x) : (results fn a.tmps).run Tryz.prog w = .ok (.tuple #[u, v, x]) w := by
 have h3 : a.tmps[c]?.getD undef = u := by simpa [Act.eval] using hc
 have h4 : a.tmps[d]?.getD undef = v := by simpa [Act.eval] using hd
 have h5 : a.tmps[e]?.getD undef = x := by simpa [Act.eval] using he
 simp [results, hr, h3, h4, h5]
theorem vlq_head (v : Nat) : ∃ c r, vlq v = c :: r ∧ c.toNat = (if v < 128 then v else v % 128 + 128) ∧ (v < 128 → r = []) ∧ (¬ v < 128 → r = vlq (v / 128)) := by
 by_cases h : v < 128
 ·exact ⟨_, [], vlq_small h, by rw [if_pos h, UInt8.toNat_ofNat']; omega, fun _ => rfl, fun h' => absurd h h'⟩
 ·exact ⟨_, _, vlq_big h, by rw [if_neg h, UInt8.toNat_ofNat']; omega, fun h' => absurd h' h, fun _ => rfl⟩
theorem readnum_any (s : ByteArray) (hs : s.size ≤ 1000000000) (p : Nat) (n : Int) (hn : wfI n) (post : List UInt8) (hp : s.data.toList.drop p = Tr.nb n ++ post) (w : World) : Calls Tryz.prog 70 #[.string s, .int .i64 (p : Int)] w fun e w' => e = .returned (.tuple #[.int .i64 n, .int .i64 ((p + (Tr.nb n).length : Nat) : Int), .int .i64 0]) ∧ Below w.heap.size w w' := by
 have hZ := zz_lt hn
 have hnb : Tr.nb n = vlq (Tr.zz n) := rfl
 have hpl := vlq_pos (Tr.zz n)
 have hps : p < s.size := by
  rcases Nat.lt_or_ge p s.data.toList.length with h | h
  ·rwa [size_list] at h
  ·rw [List.drop_eq_nil_of_le h, hnb] at hp
   have := congrArg List.length hp
   rw [List.length_append] at this
   simp only [List.length_nil] at this
   omega
 refine cv2 Tryz.func70 rfl rfl rfl fun a hf => ?_
 have hX := Bx.start w
 refine gc hf ?_
 intro a hf
 refine sv_lens hf rfl u9 dd (fun a hf => ?_)
 refine go hf ?_
 intro a hf
 refine sv_cmp hf rfl rfl false (congrArg some (decide_eq_false (by omega))) dd (fun a hf => ?_)
 refine go hf ?_
 intro a hf
 refine wp_block (wp_loop (fun a X => ∃ (i u v : Nat), FrV 67 [(0, .string s), (1, .int .i64 (p : Int)), (7, .int .u64 ((u : Nat) : Int)), (8, .int .i64 (i : Int))] a ∧ Bx ⟨w, []⟩ [] X ∧ i ≤ 9 ∧ Tr.zz n = v * 2 ^ (7 * i) + u ∧ u < 2 ^ (7 * i) ∧ (0 < i → 0 < v) ∧ s.data.toList.drop (p + i) = vlq v ++ post ∧ i + (vlq v).length = (Tr.nb n).length) (fun a _ => 10 - (intOf (a.eval (.tmp 8))).toNat) ⟨0, 0, Tr.zz n, hf.sub (sub_cons rfl (sub_cons rfl (sub_cons rfl (sub_cons rfl (sub_nil))))), hX, by omega, by rw [Nat.mul_zero, Nat.pow_zero, Nat.mul_one, Nat.add_zero], by decide, fun h => absurd h (by decide), hp, by rw [hnb, Nat.zero_add]⟩ ?_)
 clear hf hX
 rintro a W ⟨i, u, v, hf, hX, hi, hZv, hu, hv0, hdr, hlen⟩
 have hm8 : a.eval (.tmp 8) = .int .i64 (i : Int) := hf.rel 8 _ rfl
 obtain ⟨c, r, hvc, hcn, hr1, hr2⟩ := vlq_head v
 rw [hvc, List.cons_append] at hdr
 obtain ⟨hcb, hdr1⟩ := drop_one hdr
 have hpi : p + i < s.size := by have := (List.getElem?_eq_some_iff.1 hcb).1; rwa [size_list] at this
 have hcs : s[p + i]'hpi = c := Option.some.inj ((str_at hpi).symm.trans hcb)
 have hc256 : c.toNat < 256 := c.toNat_lt
 have hpw : 2 ^ (7 * i) ≤ 2 ^ 63 := Nat.pow_le_pow_right (by decide) (by omega)
 have hv9 : i = 9 → v ≤ 1 := fun h => by subst h; have e : (2 : Nat) ^ (7 * 9) = 9223372036854775808 := (by decide); rw [e] at hZv; omega
 have hvm : v * 2 ^ (7 * i) < 18446744073709551616 := by omega
 have hmod : c.toNat % 128 = v % 128 := by rw [hcn]; split <;> omega
 have hgv : c.toNat % 128 * 2 ^ (7 * i) ≤ v * 2 ^ (7 * i) := Nat.mul_le_mul_right _ (by omega)
 have hgs : c.toNat % 128 * 2 ^ (7 * i) < 18446744073709551616 := by omega
 have hus : u + c.toNat % 128 * 2 ^ (7 * i) < 18446744073709551616 := by omega
 obtain ⟨u2, hu2⟩ : ∃ x, x = u + c.toNat % 128 * 2 ^ (7 * i) := ⟨_, rfl⟩
 have hu2l : u2 < 18446744073709551616 := by omega
 have hh2 : u2 / 2 < 9223372036854775808 := by omega
 by_cases hv : v < 128
 ·
  rw [if_pos hv] at hcn
  have hu2z : u2 = Tr.zz n := by rw [hu2, hmod, Nat.mod_eq_of_lt hv, hZv, Nat.add_comm]
  have hl1 : i + 1 = (Tr.nb n).length := by rw [← hlen, hvc, hr1 hv]; rfl
  refine gc hf ?_
  intro a hf
  refine wp_block ?_
  refine gc hf ?_
  intro a hf
  refine sv_run (v := .int .i64 ((p + i : Nat) : Int)) hf dd (fun a hf => ex_addk hf rfl rfl rfl (by rw [wrap_in (by omega)]; rfl)) (fun a hf => ?_)
  refine go hf ?_
  intro a hf
  refine sv_lens hf rfl u9 dd (fun a hf => ?_)
  refine sv_cmp hf rfl rfl false (congrArg some (decide_eq_false (by omega))) dd (fun a hf => ?_)
  refine go hf ?_
  intro a hf
  refine sv_run (v := .int .i64 ((p + i : Nat) : Int)) hf dd (fun a hf => ex_addk hf rfl rfl rfl (by rw [wrap_in (by omega)]; rfl)) (fun a hf => ?_)
  refine sv_run (v := .int .u8 ((c.toNat : Nat) : Int)) hf dd (fun a hf => (by rw [← hcs]; exact ex_chr (k := p + i) hf rfl rfl rfl u9 hpi)) (fun a hf => ?_)
  refine go hf ?_
  intro a hf
  rcases Decidable.em ((i : Int) = 9) with hq1 | hq1
  ·
   refine ct hf hq1 fun a hf => ?_
   refine go hf ?_
   intro a hf
   refine sv_run (v := .bool false) hf dd (fun a hf => ex_cmpk hf rfl rfl rfl (congrArg some (decide_eq_false (by omega)))) (fun a hf => ?_)
   refine go hf ?_
   intro a hf
   rcases Decidable.em (0 < (i : Int)) with hq2 | hq2
   ·
    refine ct hf hq2 fun a hf => ?_
    refine go hf ?_
    intro a hf
    refine sv_run (v := .bool false) hf dd (fun a hf => ex_cmpk hf rfl rfl rfl (congrArg some (decide_eq_false (by omega)))) (fun a hf => ?_)
    refine go hf ?_
    intro a hf
    refine sv_run (v := .int .u8 ((c.toNat % 128 : Nat) : Int)) hf dd (fun a hf => ex_and127 hf hc256 rfl rfl rfl) (fun a hf => ?_)
    refine sv_run (v := .int .u64 ((c.toNat % 128 : Nat) : Int)) hf dd (fun a hf => ex_cv864 hf (by omega) rfl rfl) (fun a hf => ?_)
    refine go hf ?_
    intro a hf
    refine sv_run (v := .int .i64 ((7 * i : Nat) : Int)) hf dd (fun a hf => ex_mul7 hf hi rfl rfl rfl) (fun a hf => ?_)
    refine sv_run (v := .int .u64 ((c.toNat % 128 * 2 ^ (7 * i) : Nat) : Int)) hf dd (fun a hf => ex_shlS hf (by omega) hgs rfl rfl rfl) (fun a hf => ?_)
    refine sv_run (v := .int .u64 ((u + c.toNat % 128 * 2 ^ (7 * i) : Nat) : Int)) hf dd (fun a hf => ex_orS hf hu hus rfl rfl rfl) (fun a hf => ?_)
    rw [← hu2] at hf
    refine go hf ?_
    intro a hf
    refine sv_run (v := .bool true) hf dd (fun a hf => ex_cmpk hf rfl rfl rfl (congrArg some (decide_eq_true (by omega)))) (fun a hf => ?_)
    refine go hf ?_
    intro a hf
    refine sv_run (v := .int .u64 ((u2 / 2 : Nat) : Int)) hf dd (fun a hf => ex_shr1 hf rfl rfl rfl) (fun a hf => ?_)
    refine sv_run (v := .int .i64 ((u2 / 2 : Nat) : Int)) hf dd (fun a hf => ex_cv643n hf hh2 rfl rfl) (fun a hf => ?_)
    refine go hf ?_
    intro a hf
    refine sv_run (v := .int .u64 ((u2 % 2 : Nat) : Int)) hf dd (fun a hf => ex_and1 hf hu2l rfl rfl rfl) (fun a hf => ?_)
    refine sv_run (v := .int .i64 ((u2 % 2 : Nat) : Int)) hf dd (fun a hf => ex_cv643n hf (by omega) rfl rfl) (fun a hf => ?_)
    refine sv_run (v := .int .i64 (-((u2 % 2 : Nat) : Int))) hf dd (fun a hf => ex_neg hf (by omega) rfl rfl) (fun a hf => ?_)
    refine sv_run (v := .int .i64 n) hf dd (fun a hf => ex_zag hf hn hu2z rfl rfl rfl) (fun a hf => ?_)
    refine go hf ?_
    intro a hf
    refine sv_run (v := .int .i64 ((p + i : Nat) : Int)) hf dd (fun a hf => ex_addk hf rfl rfl rfl (by rw [wrap_in (by omega)]; rfl)) (fun a hf => ?_)
    refine sv_run (v := .int .i64 ((p + i + 1 : Nat) : Int)) hf dd (fun a hf => ex_addk hf rfl rfl rfl (by rw [wrap_in (by omega)]; rfl)) (fun a hf => ?_)
    refine go hf ?_
    intro a hf
    exact bodyPost_ret (res_three (c := 4) (d := 5) (e := 6) (u := .int .i64 n) (v := .int .i64 ((p + i + 1 : Nat) : Int)) (x := .int .i64 0) rfl (hf.rel 4 _ rfl) (hf.rel 5 _ rfl) (hf.rel 6 _ rfl)) hf.defers ⟨by rw [← hl1]; rfl, hX.low⟩
   ·
    refine cf hf hq2 fun a hf => ?_
    refine go hf ?_
    intro a hf
    refine sv_run (v := .int .u8 ((c.toNat % 128 : Nat) : Int)) hf dd (fun a hf => ex_and127 hf hc256 rfl rfl rfl) (fun a hf => ?_)
    refine sv_run (v := .int .u64 ((c.toNat % 128 : Nat) : Int)) hf dd (fun a hf => ex_cv864 hf (by omega) rfl rfl) (fun a hf => ?_)
    refine go hf ?_
    intro a hf
    refine sv_run (v := .int .i64 ((7 * i : Nat) : Int)) hf dd (fun a hf => ex_mul7 hf hi rfl rfl rfl) (fun a hf => ?_)
    refine sv_run (v := .int .u64 ((c.toNat % 128 * 2 ^ (7 * i) : Nat) : Int)) hf dd (fun a hf => ex_shlS hf (by omega) hgs rfl rfl rfl) (fun a hf => ?_)
    refine sv_run (v := .int .u64 ((u + c.toNat % 128 * 2 ^ (7 * i) : Nat) : Int)) hf dd (fun a hf => ex_orS hf hu hus rfl rfl rfl) (fun a hf => ?_)
    rw [← hu2] at hf
    refine go hf ?_
    intro a hf
    refine sv_run (v := .bool true) hf dd (fun a hf => ex_cmpk hf rfl rfl rfl (congrArg some (decide_eq_true (by omega)))) (fun a hf => ?_)
    refine go hf ?_
    intro a hf
    refine sv_run (v := .int .u64 ((u2 / 2 : Nat) : Int)) hf dd (fun a hf => ex_shr1 hf rfl rfl rfl) (fun a hf => ?_)
    refine sv_run (v := .int .i64 ((u2 / 2 : Nat) : Int)) hf dd (fun a hf => ex_cv643n hf hh2 rfl rfl) (fun a hf => ?_)
    refine go hf ?_
    intro a hf
    refine sv_run (v := .int .u64 ((u2 % 2 : Nat) : Int)) hf dd (fun a hf => ex_and1 hf hu2l rfl rfl rfl) (fun a hf => ?_)
    refine sv_run (v := .int .i64 ((u2 % 2 : Nat) : Int)) hf dd (fun a hf => ex_cv643n hf (by omega) rfl rfl) (fun a hf => ?_)
    refine sv_run (v := .int .i64 (-((u2 % 2 : Nat) : Int))) hf dd (fun a hf => ex_neg hf (by omega) rfl rfl) (fun a hf => ?_)
    refine sv_run (v := .int .i64 n) hf dd (fun a hf => ex_zag hf hn hu2z rfl rfl rfl) (fun a hf => ?_)
    refine go hf ?_
    intro a hf
    refine sv_run (v := .int .i64 ((p + i : Nat) : Int)) hf dd (fun a hf => ex_addk hf rfl rfl rfl (by rw [wrap_in (by omega)]; rfl)) (fun a hf => ?_)
    refine sv_run (v := .int .i64 ((p + i + 1 : Nat) : Int)) hf dd (fun a hf => ex_addk hf rfl rfl rfl (by rw [wrap_in (by omega)]; rfl)) (fun a hf => ?_)
    refine go hf ?_
    intro a hf
    exact bodyPost_ret (res_three (c := 4) (d := 5) (e := 6) (u := .int .i64 n) (v := .int .i64 ((p + i + 1 : Nat) : Int)) (x := .int .i64 0) rfl (hf.rel 4 _ rfl) (hf.rel 5 _ rfl) (hf.rel 6 _ rfl)) hf.defers ⟨by rw [← hl1]; rfl, hX.low⟩
  ·
   refine cf hf hq1 fun a hf => ?_
   refine go hf ?_
   intro a hf
   rcases Decidable.em (0 < (i : Int)) with hq3 | hq3
   ·
    refine ct hf hq3 fun a hf => ?_
    refine go hf ?_
    intro a hf
    refine sv_run (v := .bool false) hf dd (fun a hf => ex_cmpk hf rfl rfl rfl (congrArg some (decide_eq_false (by omega)))) (fun a hf => ?_)
    refine go hf ?_
    intro a hf
    refine sv_run (v := .int .u8 ((c.toNat % 128 : Nat) : Int)) hf dd (fun a hf => ex_and127 hf hc256 rfl rfl rfl) (fun a hf => ?_)
    refine sv_run (v := .int .u64 ((c.toNat % 128 : Nat) : Int)) hf dd (fun a hf => ex_cv864 hf (by omega) rfl rfl) (fun a hf => ?_)
    refine go hf ?_
    intro a hf
    refine sv_run (v := .int .i64 ((7 * i : Nat) : Int)) hf dd (fun a hf => ex_mul7 hf hi rfl rfl rfl) (fun a hf => ?_)
    refine sv_run (v := .int .u64 ((c.toNat % 128 * 2 ^ (7 * i) : Nat) : Int)) hf dd (fun a hf => ex_shlS hf (by omega) hgs rfl rfl rfl) (fun a hf => ?_)
    refine sv_run (v := .int .u64 ((u + c.toNat % 128 * 2 ^ (7 * i) : Nat) : Int)) hf dd (fun a hf => ex_orS hf hu hus rfl rfl rfl) (fun a hf => ?_)
    rw [← hu2] at hf
    refine go hf ?_
    intro a hf
    refine sv_run (v := .bool true) hf dd (fun a hf => ex_cmpk hf rfl rfl rfl (congrArg some (decide_eq_true (by omega)))) (fun a hf => ?_)
    refine go hf ?_
    intro a hf
    refine sv_run (v := .int .u64 ((u2 / 2 : Nat) : Int)) hf dd (fun a hf => ex_shr1 hf rfl rfl rfl) (fun a hf => ?_)
    refine sv_run (v := .int .i64 ((u2 / 2 : Nat) : Int)) hf dd (fun a hf => ex_cv643n hf hh2 rfl rfl) (fun a hf => ?_)
    refine go hf ?_
    intro a hf
    refine sv_run (v := .int .u64 ((u2 % 2 : Nat) : Int)) hf dd (fun a hf => ex_and1 hf hu2l rfl rfl rfl) (fun a hf => ?_)
    refine sv_run (v := .int .i64 ((u2 % 2 : Nat) : Int)) hf dd (fun a hf => ex_cv643n hf (by omega) rfl rfl) (fun a hf => ?_)
    refine sv_run (v := .int .i64 (-((u2 % 2 : Nat) : Int))) hf dd (fun a hf => ex_neg hf (by omega) rfl rfl) (fun a hf => ?_)
    refine sv_run (v := .int .i64 n) hf dd (fun a hf => ex_zag hf hn hu2z rfl rfl rfl) (fun a hf => ?_)
    refine go hf ?_
    intro a hf
    refine sv_run (v := .int .i64 ((p + i : Nat) : Int)) hf dd (fun a hf => ex_addk hf rfl rfl rfl (by rw [wrap_in (by omega)]; rfl)) (fun a hf => ?_)
    refine sv_run (v := .int .i64 ((p + i + 1 : Nat) : Int)) hf dd (fun a hf => ex_addk hf rfl rfl rfl (by rw [wrap_in (by omega)]; rfl)) (fun a hf => ?_)
    refine go hf ?_
    intro a hf
    exact bodyPost_ret (res_three (c := 4) (d := 5) (e := 6) (u := .int .i64 n) (v := .int .i64 ((p + i + 1 : Nat) : Int)) (x := .int .i64 0) rfl (hf.rel 4 _ rfl) (hf.rel 5 _ rfl) (hf.rel 6 _ rfl)) hf.defers ⟨by rw [← hl1]; rfl, hX.low⟩
   ·
    refine cf hf hq3 fun a hf => ?_
    refine go hf ?_
    intro a hf
    refine sv_run (v := .int .u8 ((c.toNat % 128 : Nat) : Int)) hf dd (fun a hf => ex_and127 hf hc256 rfl rfl rfl) (fun a hf => ?_)
    refine sv_run (v := .int .u64 ((c.toNat % 128 : Nat) : Int)) hf dd (fun a hf => ex_cv864 hf (by omega) rfl rfl) (fun a hf => ?_)
    refine go hf ?_
    intro a hf
    refine sv_run (v := .int .i64 ((7 * i : Nat) : Int)) hf dd (fun a hf => ex_mul7 hf hi rfl rfl rfl) (fun a hf => ?_)
    refine sv_run (v := .int .u64 ((c.toNat % 128 * 2 ^ (7 * i) : Nat) : Int)) hf dd (fun a hf => ex_shlS hf (by omega) hgs rfl rfl rfl) (fun a hf => ?_)
    refine sv_run (v := .int .u64 ((u + c.toNat % 128 * 2 ^ (7 * i) : Nat) : Int)) hf dd (fun a hf => ex_orS hf hu hus rfl rfl rfl) (fun a hf => ?_)
    rw [← hu2] at hf
    refine go hf ?_
    intro a hf
    refine sv_run (v := .bool true) hf dd (fun a hf => ex_cmpk hf rfl rfl rfl (congrArg some (decide_eq_true (by omega)))) (fun a hf => ?_)
    refine go hf ?_
    intro a hf
    refine sv_run (v := .int .u64 ((u2 / 2 : Nat) : Int)) hf dd (fun a hf => ex_shr1 hf rfl rfl rfl) (fun a hf => ?_)
    refine sv_run (v := .int .i64 ((u2 / 2 : Nat) : Int)) hf dd (fun a hf => ex_cv643n hf hh2 rfl rfl) (fun a hf => ?_)
    refine go hf ?_
    intro a hf
    refine sv_run (v := .int .u64 ((u2 % 2 : Nat) : Int)) hf dd (fun a hf => ex_and1 hf hu2l rfl rfl rfl) (fun a hf => ?_)
    refine sv_run (v := .int .i64 ((u2 % 2 : Nat) : Int)) hf dd (fun a hf => ex_cv643n hf (by omega) rfl rfl) (fun a hf => ?_)
    refine sv_run (v := .int .i64 (-((u2 % 2 : Nat) : Int))) hf dd (fun a hf => ex_neg hf (by omega) rfl rfl) (fun a hf => ?_)
    refine sv_run (v := .int .i64 n) hf dd (fun a hf => ex_zag hf hn hu2z rfl rfl rfl) (fun a hf => ?_)
    refine go hf ?_
    intro a hf
    refine sv_run (v := .int .i64 ((p + i : Nat) : Int)) hf dd (fun a hf => ex_addk hf rfl rfl rfl (by rw [wrap_in (by omega)]; rfl)) (fun a hf => ?_)
    refine sv_run (v := .int .i64 ((p + i + 1 : Nat) : Int)) hf dd (fun a hf => ex_addk hf rfl rfl rfl (by rw [wrap_in (by omega)]; rfl)) (fun a hf => ?_)
    refine go hf ?_
    intro a hf
    exact bodyPost_ret (res_three (c := 4) (d := 5) (e := 6) (u := .int .i64 n) (v := .int .i64 ((p + i + 1 : Nat) : Int)) (x := .int .i64 0) rfl (hf.rel 4 _ rfl) (hf.rel 5 _ rfl) (hf.rel 6 _ rfl)) hf.defers ⟨by rw [← hl1]; rfl, hX.low⟩
 ·
  rw [if_neg hv] at hcn
  have h9 : i ≠ 9 := fun h => by have := hv9 h; omega
  rw [hr2 hv] at hdr1 hvc
  refine gc hf ?_
  intro a hf
  refine wp_block ?_
  refine gc hf ?_
  intro a hf
  refine sv_run (v := .int .i64 ((p + i : Nat) : Int)) hf dd (fun a hf => ex_addk hf rfl rfl rfl (by rw [wrap_in (by omega)]; rfl)) (fun a hf => ?_)
  refine go hf ?_
  intro a hf
  refine sv_lens hf rfl u9 dd (fun a hf => ?_)
  refine sv_cmp hf rfl rfl false (congrArg some (decide_eq_false (by omega))) dd (fun a hf => ?_)
  refine go hf ?_
  intro a hf
  refine sv_run (v := .int .i64 ((p + i : Nat) : Int)) hf dd (fun a hf => ex_addk hf rfl rfl rfl (by rw [wrap_in (by omega)]; rfl)) (fun a hf => ?_)
  refine sv_run (v := .int .u8 ((c.toNat : Nat) : Int)) hf dd (fun a hf => (by rw [← hcs]; exact ex_chr (k := p + i) hf rfl rfl rfl u9 hpi)) (fun a hf => ?_)
  refine go hf ?_
  intro a hf
  refine sv_cmp hf rfl rfl false (congrArg some (decide_eq_false (by omega))) dd (fun a hf => ?_)
  refine go hf ?_
  intro a hf
  rcases Decidable.em (0 < (i : Int)) with hq4 | hq4
  ·
   refine ct hf hq4 fun a hf => ?_
   refine go hf ?_
   intro a hf
   refine sv_run (v := .bool false) hf dd (fun a hf => ex_cmpk hf rfl rfl rfl (congrArg some (decide_eq_false (by omega)))) (fun a hf => ?_)
   refine go hf ?_
   intro a hf
   refine sv_run (v := .int .u8 ((c.toNat % 128 : Nat) : Int)) hf dd (fun a hf => ex_and127 hf hc256 rfl rfl rfl) (fun a hf => ?_)
   refine sv_run (v := .int .u64 ((c.toNat % 128 : Nat) : Int)) hf dd (fun a hf => ex_cv864 hf (by omega) rfl rfl) (fun a hf => ?_)
   refine go hf ?_
   intro a hf
   refine sv_run (v := .int .i64 ((7 * i : Nat) : Int)) hf dd (fun a hf => ex_mul7 hf hi rfl rfl rfl) (fun a hf => ?_)
   refine sv_run (v := .int .u64 ((c.toNat % 128 * 2 ^ (7 * i) : Nat) : Int)) hf dd (fun a hf => ex_shlS hf (by omega) hgs rfl rfl rfl) (fun a hf => ?_)
   refine sv_run (v := .int .u64 ((u + c.toNat % 128 * 2 ^ (7 * i) : Nat) : Int)) hf dd (fun a hf => ex_orS hf hu hus rfl rfl rfl) (fun a hf => ?_)
   rw [← hu2] at hf
   refine go hf ?_
   intro a hf
   refine sv_run (v := .bool false) hf dd (fun a hf => ex_cmpk hf rfl rfl rfl (congrArg some (decide_eq_false (by omega)))) (fun a hf => ?_)
   refine go hf ?_
   intro a hf
   refine sv_run (v := .int .i64 ((i + 1 : Nat) : Int)) hf dd (fun a hf => ex_addk hf rfl rfl rfl (by rw [wrap_in (by omega)]; rfl)) (fun a hf => ?_)
   refine go hf ?_
   intro a hf
   have hpe : 2 ^ (7 * (i + 1)) = 128 * 2 ^ (7 * i) := by rw [Nat.mul_add, Nat.pow_add, Nat.mul_comm]
   have hdm := Nat.div_add_mod v 128
   have hZ2 : Tr.zz n = v / 128 * 2 ^ (7 * (i + 1)) + u2 := by rw [hpe, hu2, hmod, hZv, ← Nat.mul_assoc, Nat.mul_comm (v / 128) 128, Nat.add_comm u, ← Nat.add_assoc, ← Nat.add_mul, hdm]
   have hu22 : u2 < 2 ^ (7 * (i + 1)) := by rw [hpe, hu2]; have : c.toNat % 128 * 2 ^ (7 * i) ≤ 127 * 2 ^ (7 * i) := Nat.mul_le_mul_right _ (by omega); omega
   refine ⟨⟨i + 1, u2, v / 128, hf.sub (sub_cons rfl (sub_cons rfl (sub_cons rfl (sub_cons rfl (sub_nil))))), hX, by omega, hZ2, hu22, fun _ => by omega, hdr1, by rw [← hlen, hvc, List.length_cons]; omega⟩, ?_⟩
   have h5 : a.eval (.tmp 8) = .int .i64 ((i + 1 : Nat) : Int) := hf.rel 8 _ rfl
   rw [h5, hm8]; simp only [intOf, Int.toNat_natCast]; omega
  ·
   refine cf hf hq4 fun a hf => ?_
   refine go hf ?_
   intro a hf
   refine sv_run (v := .int .u8 ((c.toNat % 128 : Nat) : Int)) hf dd (fun a hf => ex_and127 hf hc256 rfl rfl rfl) (fun a hf => ?_)
   refine sv_run (v := .int .u64 ((c.toNat % 128 : Nat) : Int)) hf dd (fun a hf => ex_cv864 hf (by omega) rfl rfl) (fun a hf => ?_)
   refine go hf ?_
   intro a hf
   refine sv_run (v := .int .i64 ((7 * i : Nat) : Int)) hf dd (fun a hf => ex_mul7 hf hi rfl rfl rfl) (fun a hf => ?_)
   refine sv_run (v := .int .u64 ((c.toNat % 128 * 2 ^ (7 * i) : Nat) : Int)) hf dd (fun a hf => ex_shlS hf (by omega) hgs rfl rfl rfl) (fun a hf => ?_)
   refine sv_run (v := .int .u64 ((u + c.toNat % 128 * 2 ^ (7 * i) : Nat) : Int)) hf dd (fun a hf => ex_orS hf hu hus rfl rfl rfl) (fun a hf => ?_)
   rw [← hu2] at hf
   refine go hf ?_
   intro a hf
   refine sv_run (v := .bool false) hf dd (fun a hf => ex_cmpk hf rfl rfl rfl (congrArg some (decide_eq_false (by omega)))) (fun a hf => ?_)
   refine go hf ?_
   intro a hf
   refine sv_run (v := .int .i64 ((i + 1 : Nat) : Int)) hf dd (fun a hf => ex_addk hf rfl rfl rfl (by rw [wrap_in (by omega)]; rfl)) (fun a hf => ?_)
   refine go hf ?_
   intro a hf
   have hpe : 2 ^ (7 * (i + 1)) = 128 * 2 ^ (7 * i) := by rw [Nat.mul_add, Nat.pow_add, Nat.mul_comm]
   have hdm := Nat.div_add_mod v 128
   have hZ2 : Tr.zz n = v / 128 * 2 ^ (7 * (i + 1)) + u2 := by rw [hpe, hu2, hmod, hZv, ← Nat.mul_assoc, Nat.mul_comm (v / 128) 128, Nat.add_comm u, ← Nat.add_assoc, ← Nat.add_mul, hdm]
   have hu22 : u2 < 2 ^ (7 * (i + 1)) := by rw [hpe, hu2]; have : c.toNat % 128 * 2 ^ (7 * i) ≤ 127 * 2 ^ (7 * i) := Nat.mul_le_mul_right _ (by omega); omega
   refine ⟨⟨i + 1, u2, v / 128, hf.sub (sub_cons rfl (sub_cons rfl (sub_cons rfl (sub_cons rfl (sub_nil))))), hX, by omega, hZ2, hu22, fun _ => by omega, hdr1, by rw [← hlen, hvc, List.length_cons]; omega⟩, ?_⟩
   have h5 : a.eval (.tmp 8) = .int .i64 ((i + 1 : Nat) : Int) := hf.rel 8 _ rfl
   rw [h5, hm8]; simp only [intOf, Int.toNat_natCast]; omega
theorem info_crd : (Tryz.prog.info? 145).map (·.size) = some 3 := by kernel_rfl
theorem zero_crd : (Tryz.prog.info? 145).bind (·.zero) = some (.agg (List.toArray [.string ⟨#[]⟩, .int .i64 0, .int .i64 0])) := by kernel_rfl
theorem need_any (x : Int) (w : World) : Calls Tryz.prog 96 #[.bool true, .int .i64 x] w fun e w' => e = .returned (.tuple #[]) ∧ w' = w := by
 go_enter Tryz.func96, Tryz.ntmps96
 go_wp2
 exact bodyPost_end (v := .tuple #[]) (by simp [results, Tryz.results96, go_sem]) rfl ⟨rfl, rfl⟩
theorem ex_substr {w : World} {N : Nat} {env : VEnv} {a : Act} {oo : Oper} {x y z : Operand} {s : ByteArray} {i j : Nat} (hf : FrV N env a) (ho : oo.op = .slice 9 x (some y) (some z) none) (hx : ev env x = some (.string s)) (hy : ev env y = some (.int .i64 (i : Int))) (hz : ev env z = some (.int .i64 (j : Int))) (hij : i ≤ j) (hj : j ≤ s.size) : (execOp a.eval oo).run Tryz.prog w = .ok (.value (.string (mkS ((s.data.toList.drop i).take (j - i))))) w := by
 unfold execOp
 simp only [ho, hf.ev hx, Option.map_some, Option.map_none, hf.ev hy, hf.ev hz]
 have h := run_slice_string (P := Tryz.prog) w 9 s .i64 .i64 (i : Int) (j : Int) u9 (by omega) (by omega) (by omega)
 have e : s.extract i j = mkS ((s.data.toList.drop i).take (j - i)) := by
  obtain ⟨⟨l⟩⟩ := s
  exact ByteArray.extract_mk l i j
 rw [Int.toNat_natCast, Int.toNat_natCast, e] at h
 simp only [Sem.run_bind, Sem.run_pure, run_sliceAt_string (P := Tryz.prog) w 9 _ _ _ _ u9, h, Result.andThen_ok]
theorem ex_sl {w : World} {N : Nat} {env : VEnv} {a : Act} {oo : Oper} {x y z : Operand} {s : ByteArray} {p m : Nat} (hf : FrV N env a) (ho : oo.op = .slice 9 x (some y) (some z) none) (hx : ev env x = some (.string s)) (hy : ev env y = some (.int .i64 (p : Int))) (hz : ev env z = some (.int .i64 ((p + m : Nat) : Int))) (hm : p + m ≤ s.size) : (execOp a.eval oo).run Tryz.prog w = .ok (.value (.string (mkS ((s.data.toList.drop p).take m)))) w := by
 have := ex_substr (w := w) hf ho hx hy hz (by omega) hm
 rwa [Nat.add_sub_cancel_left] at this
theorem take_any (R : Nat) (s : ByteArray) (hs : s.size ≤ 1000000000) (p nd m : Nat) (hm : p + m ≤ s.size) (w : World) (hRd : Box w R [.string s, .int .i64 (p : Int), .int .i64 (nd : Int)]) : Calls Tryz.prog 97 #[.pointer (some ⟨R, 0, none⟩), .int .i64 (m : Int)] w fun e w' => e = .returned (.string (mkS ((s.data.toList.drop p).take m))) ∧ Box w' R [.string s, .int .i64 ((p + m : Nat) : Int), .int .i64 (nd : Int)] ∧ w.grownBy w' (some R) := by
 refine cv2 Tryz.func97 rfl rfl rfl fun a hf => ?_
 have hX := Bx.start w
 clear hX
 have hX0 := Bx.bare w (fun k => k ≠ R)
 have hX := hX0.add hRd (Nat.zero_le _) (fun x h => by cases h) (fun p hp _ => by rw [List.mem_singleton.1 hp]; exact fun h => h rfl)
 clear hX0
 refine gc hf ?_
 intro a hf
 refine wp_region_ordW 13 12 [(0, 0), (1, 0), (2, 0), (3, 0), (4, 1), (5, 0), (6, 0), (7, 0), (8, 0), (9, 1), (10, 0), (11, 0), (12, 3)] (fun X => Bx ⟨bare w, [(w, fun k => k ≠ R)]⟩ [(R, [.string s, .int .i64 (p : Int), .int .i64 (nd : Int)])] X) mixed (by kernel_rfl) hX.drew (fun c a d v w h => by cases d <;> exact h) ?_
 replace hX := hX.drew
 refine o0 hf fun a hf => ?_
 refine o0 hf fun a hf => ?_
 refine o0 hf fun a hf => ?_
 refine ov0 (v := .pointer (some ⟨R, 0, none⟩)) hf rfl rfl dd rfl (fun X => ex_vfld (0) hf rfl rfl Tryz.underlying145 rfl sz_str rfl) (fun a hf => ?_)
 refine ov1 (v := .string s) hf rfl rfl dd rfl (fun X hS => ex_vlc (cs := [.string s, .int .i64 (p : Int), .int .i64 (nd : Int)]) hf rfl rfl (hS.get (i := 0) rfl) rfl u9 rfl) (fun a hf => ?_)
 refine ov0 (v := .int .i64 ((s).size : Int)) hf rfl rfl dd rfl (fun X => ex_lens hf rfl rfl u9) (fun a hf => ?_)
 refine o0 hf fun a hf => ?_
 refine o0 hf fun a hf => ?_
 refine ov0 (v := .pointer (some ⟨R, 1, none⟩)) hf rfl rfl dd rfl (fun X => ex_vfld (1) hf rfl rfl Tryz.underlying145 rfl sz_int rfl) (fun a hf => ?_)
 refine ov1 (v := .int .i64 (p : Int)) hf rfl rfl dd rfl (fun X hS => ex_vlc (cs := [.string s, .int .i64 (p : Int), .int .i64 (nd : Int)]) hf rfl rfl (hS.get (i := 0) rfl) rfl u3 rfl) (fun a hf => ?_)
 refine ov0 (v := .int .i64 ((s.size : Int) - (p : Int))) hf rfl rfl dd rfl (fun X => ex_sub hf rfl rfl rfl (wrap_in (by omega))) (fun a hf => ?_)
 refine ov0 hf rfl rfl dd rfl (fun X => ex_cmp (b := true) hf rfl rfl rfl (congrArg some (decide_eq_true (by omega)))) (fun a hf => ?_)
 refine ov3c hf rfl rfl dd rfl rfl fnOK_96 rfl (need_any _ _) ?_
 rintro e W' ⟨rfl, hw⟩
 subst hw
 refine ⟨_, rfl, fun a hf => ?_⟩
 refine wpOrd_nil ?_
 refine gc hf ?_
 intro a hf
 refine sv_fld hf rfl Tryz.underlying145 rfl sz_int (1) rfl dd (fun a hf => ?_)
 refine go hf ?_
 intro a hf
 refine sv_add ((p + m : Nat) : Int) hf rfl rfl (by rw [wrap_in (by omega)]; rfl) dd (fun a hf => ?_)
 refine go hf ?_
 intro a hf
 refine sv_fld hf rfl Tryz.underlying145 rfl sz_int (1) rfl dd (fun a hf => ?_)
 refine sv_sc (cs' := [.string s, .int .i64 ((p + m : Nat) : Int), .int .i64 (nd : Int)]) hf hX rfl rfl 0 rfl dd rfl info_int rfl [(R, [.string s, .int .i64 ((p + m : Nat) : Int), .int .i64 (nd : Int)])] rfl (fun W hX hO => ?_)
 clear hO
 refine go hf ?_
 intro a hf
 refine wp_region_ordW 16 15 [(0, 0), (1, 0), (2, 0), (3, 1), (4, 0), (5, 0), (6, 0), (7, 1), (8, 0), (9, 0), (10, 0), (11, 0), (12, 0), (13, 1), (14, 0), (15, 3)] (fun X => Bx ⟨bare w, [(w, fun k => k ≠ R)]⟩ [(R, [.string s, .int .i64 ((p + m : Nat) : Int), .int .i64 (nd : Int)])] X) mixed (by kernel_rfl) hX.drew (fun c a d v w h => by cases d <;> exact h) ?_
 replace hX := hX.drew
 refine o0 hf fun a hf => ?_
 refine o0 hf fun a hf => ?_
 refine ov0 (v := .pointer (some ⟨R, 0, none⟩)) hf rfl rfl dd rfl (fun X => ex_vfld (0) hf rfl rfl Tryz.underlying145 rfl sz_str rfl) (fun a hf => ?_)
 refine ov1 (v := .string s) hf rfl rfl dd rfl (fun X hS => ex_vlc (cs := [.string s, .int .i64 ((p + m : Nat) : Int), .int .i64 (nd : Int)]) hf rfl rfl (hS.get (i := 0) rfl) rfl u9 rfl) (fun a hf => ?_)
 refine o0 hf fun a hf => ?_
 refine o0 hf fun a hf => ?_
 refine ov0 (v := .pointer (some ⟨R, 1, none⟩)) hf rfl rfl dd rfl (fun X => ex_vfld (1) hf rfl rfl Tryz.underlying145 rfl sz_int rfl) (fun a hf => ?_)
 refine ov1 (v := .int .i64 ((p + m : Nat) : Int)) hf rfl rfl dd rfl (fun X hS => ex_vlc (cs := [.string s, .int .i64 ((p + m : Nat) : Int), .int .i64 (nd : Int)]) hf rfl rfl (hS.get (i := 0) rfl) rfl u3 rfl) (fun a hf => ?_)
 refine o0 hf fun a hf => ?_
 refine ov0 (v := .int .i64 (p : Int)) hf rfl rfl dd rfl (fun X => ex_sub hf rfl rfl rfl (by have h9 := wrap_in (m := ((p + m : Nat) : Int) - (m : Int)) (by omega); omega)) (fun a hf => ?_)
 refine o0 hf fun a hf => ?_
 refine o0 hf fun a hf => ?_
 refine ov0 (v := .pointer (some ⟨R, 1, none⟩)) hf rfl rfl dd rfl (fun X => ex_vfld (1) hf rfl rfl Tryz.underlying145 rfl sz_int rfl) (fun a hf => ?_)
 refine ov1 (v := .int .i64 ((p + m : Nat) : Int)) hf rfl rfl dd rfl (fun X hS => ex_vlc (cs := [.string s, .int .i64 ((p + m : Nat) : Int), .int .i64 (nd : Int)]) hf rfl rfl (hS.get (i := 0) rfl) rfl u3 rfl) (fun a hf => ?_)
 refine ov0 (v := .string (mkS ((s.data.toList.drop p).take m))) hf rfl rfl dd rfl (fun X => ex_sl (m := m) hf rfl rfl rfl rfl hm) (fun a hf => ?_)
 refine ov3v (v := .string (mkS ((s.data.toList.drop p).take m))) hf rfl rfl dd rfl (ex_vas hf rfl rfl) (fun a hf => ?_)
 refine wpOrd_nil ?_
 refine wp_ret ?_
 try simp only [Exit.inBlock, Exit.then]
 exact rt hf rfl rfl ⟨rfl, hX.get (i := 0) rfl, ⟨hX.low.os, hX.low.tape, hX.low.output, (hX.bas _ List.mem_cons_self).1, fun k hk hne => (hX.bas _ List.mem_cons_self).2 k hk (fun e => hne (by rw [e]))⟩⟩
theorem cnum_any (R : Nat) (s : ByteArray) (hs : s.size ≤ 1000000000) (p nd : Nat) (n : Int) (hn : wfI n) (post : List UInt8) (hp : s.data.toList.drop p = Tr.nb n ++ post) (w : World) (hRd : Box w R [.string s, .int .i64 (p : Int), .int .i64 (nd : Int)]) : Calls Tryz.prog 98 #[.pointer (some ⟨R, 0, none⟩)] w fun e w' => e = .returned (.int .i64 n) ∧ Box w' R [.string s, .int .i64 ((p + (Tr.nb n).length : Nat) : Int), .int .i64 (nd : Int)] ∧ w.grownBy w' (some R) := by
 refine cv1 Tryz.func98 rfl rfl rfl fun a hf => ?_
 have hX := Bx.start w
 clear hX
 have hX0 := Bx.bare w (fun k => k ≠ R)
 have hX := hX0.add hRd (Nat.zero_le _) (fun x h => by cases h) (fun p hp _ => by rw [List.mem_singleton.1 hp]; exact fun h => h rfl)
 clear hX0
 refine gc hf ?_
 intro a hf
 refine wp_region_ordW 16 15 [(0, 0), (1, 0), (2, 0), (3, 1), (4, 0), (5, 0), (6, 0), (7, 1), (8, 2), (9, 0), (10, 0), (11, 0), (12, 0), (13, 0), (14, 0), (15, 3)] (fun X => Bx ⟨bare w, [(w, fun k => k ≠ R)]⟩ [(R, [.string s, .int .i64 (p : Int), .int .i64 (nd : Int)])] X) mixed (by kernel_rfl) hX.drew (fun c a d v w h => by cases d <;> exact h) ?_
 replace hX := hX.drew
 refine o0 hf fun a hf => ?_
 refine o0 hf fun a hf => ?_
 refine ov0 (v := .pointer (some ⟨R, 0, none⟩)) hf rfl rfl dd rfl (fun X => ex_vfld (0) hf rfl rfl Tryz.underlying145 rfl sz_str rfl) (fun a hf => ?_)
 refine ov1 (v := .string s) hf rfl rfl dd rfl (fun X hS => ex_vlc (cs := [.string s, .int .i64 (p : Int), .int .i64 (nd : Int)]) hf rfl rfl (hS.get (i := 0) rfl) rfl u9 rfl) (fun a hf => ?_)
 refine o0 hf fun a hf => ?_
 refine o0 hf fun a hf => ?_
 refine ov0 (v := .pointer (some ⟨R, 1, none⟩)) hf rfl rfl dd rfl (fun X => ex_vfld (1) hf rfl rfl Tryz.underlying145 rfl sz_int rfl) (fun a hf => ?_)
 refine ov1 (v := .int .i64 (p : Int)) hf rfl rfl dd rfl (fun X hS => ex_vlc (cs := [.string s, .int .i64 (p : Int), .int .i64 (nd : Int)]) hf rfl rfl (hS.get (i := 0) rfl) rfl u3 rfl) (fun a hf => ?_)
 refine ov2c hf rfl rfl dd rfl rfl fnOK_70 rfl (readnum_any s hs p n hn post hp _) ?_
 rintro e W ⟨rfl, hb⟩
 replace hX := hX.keep hb
 clear hb
 refine ⟨_, rfl, hX, fun a hf => ?_⟩
 refine o0 hf fun a hf => ?_
 refine ov0 (v := .int .i64 n) hf rfl rfl dd rfl (fun X => ex_vext hf rfl rfl rfl) (fun a hf => ?_)
 refine ov0 (v := .int .i64 ((p + (Tr.nb n).length : Nat) : Int)) hf rfl rfl dd rfl (fun X => ex_vext hf rfl rfl rfl) (fun a hf => ?_)
 refine ov0 (v := .int .i64 0) hf rfl rfl dd rfl (fun X => ex_vext hf rfl rfl rfl) (fun a hf => ?_)
 refine o0 hf fun a hf => ?_
 refine o0 hf fun a hf => ?_
 refine ov3v (v := .int .i64 0) hf rfl rfl dd rfl (ex_vas hf rfl rfl) (fun a hf => ?_)
 refine wpOrd_nil ?_
 refine gc hf ?_
 intro a hf
 refine sv_call hf fnOK_96 rfl (need_any _ _) dd ?_
 rintro e W' ⟨rfl, hw⟩
 subst hw
 refine ⟨_, rfl, fun a hf => ?_⟩
 refine go hf ?_
 intro a hf
 refine sv_fld hf rfl Tryz.underlying145 rfl sz_int (1) rfl dd (fun a hf => ?_)
 refine sv_sc (cs' := [.string s, .int .i64 ((p + (Tr.nb n).length : Nat) : Int), .int .i64 (nd : Int)]) hf hX rfl rfl 0 rfl dd rfl info_int rfl [(R, [.string s, .int .i64 ((p + (Tr.nb n).length : Nat) : Int), .int .i64 (nd : Int)])] rfl (fun W hX hO => ?_)
 clear hO
 refine go hf ?_
 intro a hf
 exact rt hf rfl rfl ⟨rfl, hX.get (i := 0) rfl, ⟨hX.low.os, hX.low.tape, hX.low.output, (hX.bas _ List.mem_cons_self).1, fun k hk hne => (hX.bas _ List.mem_cons_self).2 k hk (fun e => hne (by rw [e]))⟩⟩
theorem count_any (R : Nat) (s : ByteArray) (hs : s.size ≤ 1000000000) (p nd : Nat) (n : Int) (hn : wfI n) (hn0 : 0 ≤ n) (post : List UInt8) (hp : s.data.toList.drop p = Tr.nb n ++ post) (w : World) (hRd : Box w R [.string s, .int .i64 (p : Int), .int .i64 (nd : Int)]) : Calls Tryz.prog 99 #[.pointer (some ⟨R, 0, none⟩)] w fun e w' => e = .returned (.int .i64 n) ∧ Box w' R [.string s, .int .i64 ((p + (Tr.nb n).length : Nat) : Int), .int .i64 (nd : Int)] ∧ w.grownBy w' (some R) := by
 refine cv1 Tryz.func99 rfl rfl rfl fun a hf => ?_
 have hX := Bx.start w
 clear hX
 have hX0 := Bx.bare w (fun k => k ≠ R)
 have hX := hX0.add hRd (Nat.zero_le _) (fun x h => by cases h) (fun p hp _ => by rw [List.mem_singleton.1 hp]; exact fun h => h rfl)
 clear hX0
 refine gc hf ?_
 intro a hf
 refine sv_call hf fnOK_98 rfl (cnum_any R s hs p nd n hn post hp _ (hX.get (i := 0) rfl)) dd ?_
 rintro e W2 ⟨rfl, hb, hg⟩
 replace hX : Bx ⟨bare w, [(w, fun k => k ≠ R)]⟩ [(R, [.string s, .int .i64 ((p + (Tr.nb n).length : Nat) : Int), .int .i64 (nd : Int)])] W2 := hX.turn (i := 0) rfl hg hb
 clear hb hg
 obtain ⟨W, hWW⟩ : ∃ X, X = W2 := ⟨_, rfl⟩
 subst hWW
 refine ⟨_, rfl, fun a hf => ?_⟩
 refine go hf ?_
 intro a hf
 refine ct hf hn0 fun a hf => ?_
 refine sv_call hf fnOK_96 rfl (need_any _ _) dd ?_
 rintro e W' ⟨rfl, hw⟩
 subst hw
 refine ⟨_, rfl, fun a hf => ?_⟩
 refine go hf ?_
 intro a hf
 exact rt hf rfl rfl ⟨rfl, hX.get (i := 0) rfl, ⟨hX.low.os, hX.low.tape, hX.low.output, (hX.bas _ List.mem_cons_self).1, fun k hk hne => (hX.bas _ List.mem_cons_self).2 k hk (fun e => hne (by rw [e]))⟩⟩
theorem ctext_any (R : Nat) (s : ByteArray) (hs : s.size ≤ 1000000000) (p nd : Nat) (x : ByteArray) (hx : x.size ≤ 4096) (post : List UInt8) (hp : s.data.toList.drop p = (Tr.nb x.size ++ x.data.toList) ++ post) (w : World) (hRd : Box w R [.string s, .int .i64 (p : Int), .int .i64 (nd : Int)]) : Calls Tryz.prog 100 #[.pointer (some ⟨R, 0, none⟩)] w fun e w' => e = .returned (.string x) ∧ Box w' R [.string s, .int .i64 ((p + (Tr.nb x.size ++ x.data.toList).length : Nat) : Int), .int .i64 (nd : Int)] ∧ w.grownBy w' (some R) := by
 rw [List.append_assoc] at hp
 have hq := drop_next hp
 have hmk : mkS ((s.data.toList.drop (p + (Tr.nb x.size).length)).take x.size) = x := by
  rw [hq, List.take_append_of_le_length (by rw [size_list]; exact Nat.le_refl _), List.take_of_length_le (by rw [size_list]; exact Nat.le_refl _)]
  obtain ⟨⟨l⟩⟩ := x
  rfl
 have hps : p + (Tr.nb x.size).length + x.size ≤ s.size := by
  have h1 := congrArg List.length hq
  rw [List.length_drop, List.length_append, size_list, size_list] at h1
  have h2 := congrArg List.length hp
  rw [List.length_drop, List.length_append, List.length_append, size_list, size_list] at h2
  have h3 := vlq_pos (Tr.zz x.size)
  have h4 : (Tr.nb x.size).length = (vlq (Tr.zz x.size)).length := rfl
  omega
 refine cv1 Tryz.func100 rfl rfl rfl fun a hf => ?_
 have hX := Bx.start w
 clear hX
 have hX0 := Bx.bare w (fun k => k ≠ R)
 have hX := hX0.add hRd (Nat.zero_le _) (fun x h => by cases h) (fun p hp _ => by rw [List.mem_singleton.1 hp]; exact fun h => h rfl)
 clear hX0
 refine gc hf ?_
 intro a hf
 refine sv_call hf fnOK_99 rfl (count_any R s hs p nd (x.size : Int) (wf_nat (by omega)) (by omega) _ hp _ (hX.get (i := 0) rfl)) dd ?_
 rintro e W2 ⟨rfl, hb, hg⟩
 replace hX : Bx ⟨bare w, [(w, fun k => k ≠ R)]⟩ [(R, [.string s, .int .i64 ((p + (Tr.nb x.size).length : Nat) : Int), .int .i64 (nd : Int)])] W2 := hX.turn (i := 0) rfl hg hb
 clear hb hg
 obtain ⟨W, hWW⟩ : ∃ X, X = W2 := ⟨_, rfl⟩
 subst hWW
 refine ⟨_, rfl, fun a hf => ?_⟩
 refine go hf ?_
 intro a hf
 refine sv_cmp hf rfl rfl true (congrArg some (decide_eq_true (by omega))) dd (fun a hf => ?_)
 refine sv_call hf fnOK_96 rfl (need_any _ _) dd ?_
 rintro e W' ⟨rfl, hw⟩
 subst hw
 refine ⟨_, rfl, fun a hf => ?_⟩
 refine go hf ?_
 intro a hf
 refine sv_call hf fnOK_97 rfl (take_any R s hs (p + (Tr.nb x.size).length) nd x.size hps _ (hX.get (i := 0) rfl)) dd ?_
 rw [hmk]
 rintro e W2 ⟨rfl, hb, hg⟩
 replace hX : Bx ⟨bare w, [(w, fun k => k ≠ R)]⟩ [(R, [.string s, .int .i64 ((p + (Tr.nb x.size).length + x.size : Nat) : Int), .int .i64 (nd : Int)])] W2 := hX.turn (i := 0) rfl hg hb
 clear hb hg
 obtain ⟨W, hWW⟩ : ∃ X, X = W2 := ⟨_, rfl⟩
 subst hWW
 refine ⟨_, rfl, fun a hf => ?_⟩
 refine go hf ?_
 intro a hf
 exact rt hf rfl rfl ⟨rfl, by rw [List.length_append, size_list, ← Nat.add_assoc]; exact hX.get (i := 0) rfl, ⟨hX.low.os, hX.low.tape, hX.low.output, (hX.bas _ List.mem_cons_self).1, fun k hk hne => (hX.bas _ List.mem_cons_self).2 k hk (fun e => hne (by rw [e]))⟩⟩
theorem chN_of {c : UInt8} (h : Tr.chN c = true) : ¬ ((c.toNat : Nat) : Int) < 33 ∧ ¬ 126 < ((c.toNat : Nat) : Int) ∧ ¬ ((c.toNat : Nat) : Int) = 46 := by
 unfold Tr.chN at h
 simp only [Bool.not_eq_true', Bool.or_eq_false_iff, decide_eq_false_iff_not] at h
 omega
theorem cname_any (s : ByteArray) (h : Tr.isN s = true) (w : World) : Calls Tryz.prog 118 #[.string s] w fun e w' => e = .returned (.bool true) ∧ Below w.heap.size w w' := by
  have hsz := (isN_ne h).1
  unfold Tr.isN at h
  simp only [Bool.and_eq_true, decide_eq_true_eq, Bool.not_eq_true', decide_eq_false_iff_not] at h
  obtain ⟨⟨⟨h1, _⟩, h36⟩, hall⟩ := h
  have h00 : 0 < s.size := by omega
  obtain ⟨c0, hc0⟩ : ∃ c : UInt8, s[0]'h00 = c := ⟨_, rfl⟩
  have hc36 : ¬ ((c0.toNat : Nat) : Int) = 36 := fun e => h36 (by
    rw [List.head?_eq_getElem?, str_at h00, hc0]
    exact congrArg some (UInt8.toNat_inj.1 (by have : c0.toNat = 36 := by omega
                                               rw [this]; rfl)))
  refine cv1 Tryz.func118 rfl rfl rfl fun a hf => ?_
  have hX := Bx.start w
  refine gc hf ?_
  intro a hf
  refine sv_lens hf rfl u9 dd (fun a hf => ?_)
  refine go hf ?_
  intro a hf
  refine wp_block (wp_loop (fun a X => ∃ (q : Nat), FrV 29 [(0, .string s), (5, .int .i64 ((s).size : Int)), (6, .int .i64 (q : Int))] a ∧ Bx ⟨w, []⟩ [] X ∧ q ≤ s.size) (fun a _ => s.size - (intOf (a.eval (.tmp 6))).toNat) ⟨0, hf.sub (sub_cons rfl (sub_cons rfl (sub_cons rfl (sub_nil)))), hX, Nat.zero_le _⟩ ?_)
  clear hf hX
  rintro a W ⟨q, hf, hX, hq⟩
  have hm6 : a.eval (.tmp 6) = .int .i64 (q : Int) := hf.rel 6 _ rfl
  rcases Decidable.em ((q : Int) < ((s).size : Int)) with hgo | hgo
  ·
    refine gc hf ?_
    intro a hf
    refine ct hf hgo fun a hf => ?_
    refine go hf ?_
    intro a hf
    refine wp_block ?_
    have hq2 : q < s.size := by omega
    obtain ⟨cq, hcq⟩ : ∃ c : UInt8, s[q]'hq2 = c := ⟨_, rfl⟩
    have hk := chN_of (List.all_eq_true.1 hall cq (List.mem_of_getElem? (by rw [str_at hq2, hcq])))
    refine gc hf ?_
    intro a hf
    refine sv_run (v := .int .u8 ((cq.toNat : Nat) : Int)) hf dd (fun a hf => (by rw [← hcq]; exact ex_chr (k := q) hf rfl rfl rfl u9 hq2)) (fun a hf => ?_)
    refine sv_run (v := .bool false) hf dd (fun a hf => ex_cmpk hf rfl rfl rfl (congrArg some (decide_eq_false hk.1))) (fun a hf => ?_)
    refine go hf ?_
    intro a hf
    refine sv_run (v := .int .u8 ((cq.toNat : Nat) : Int)) hf dd (fun a hf => (by rw [← hcq]; exact ex_chr (k := q) hf rfl rfl rfl u9 hq2)) (fun a hf => ?_)
    refine go hf ?_
    intro a hf
    refine sv_run (v := .bool false) hf dd (fun a hf => ex_cmpk hf rfl rfl rfl (congrArg some (decide_eq_false hk.2.1))) (fun a hf => ?_)
    refine go hf ?_
    intro a hf
    refine sv_run (v := .int .u8 ((cq.toNat : Nat) : Int)) hf dd (fun a hf => (by rw [← hcq]; exact ex_chr (k := q) hf rfl rfl rfl u9 hq2)) (fun a hf => ?_)
    refine go hf ?_
    intro a hf
    refine sv_run (v := .bool false) hf dd (fun a hf => ex_cmpk hf rfl rfl rfl (congrArg some (decide_eq_false hk.2.2))) (fun a hf => ?_)
    refine go hf ?_
    intro a hf
    refine sv_add ((q + 1 : Nat) : Int) hf rfl rfl (by rw [wrap_in (by omega)]; rfl) dd (fun a hf => ?_)
    refine go hf ?_
    intro a hf
    refine ⟨⟨q + 1, hf.sub (sub_cons rfl (sub_cons rfl (sub_cons rfl (sub_nil)))), hX, by omega⟩, ?_⟩
    have h5 : a.eval (.tmp 6) = .int .i64 ((q + 1 : Nat) : Int) := hf.rel 6 _ rfl
    rw [h5, hm6]; simp only [intOf, Int.toNat_natCast]; omega
  ·
    refine gc hf ?_
    intro a hf
    refine cf hf hgo fun a hf => ?_
    refine go hf ?_
    intro a hf
    refine wp_exit ?_
    simp only [Exit.inBlock, Exit.then, ↓reduceIte]
    refine gc hf ?_
    intro a hf
    refine sv_run (v := .int .u8 ((c0.toNat : Nat) : Int)) hf dd (fun a hf => (by rw [← hc0]; exact ex_chr (k := 0) hf rfl rfl rfl u9 h00)) (fun a hf => ?_)
    refine sv_run (v := .bool true) hf dd (fun a hf => ex_cmpk hf rfl rfl rfl (congrArg some (by rw [decide_eq_false hc36]; rfl))) (fun a hf => ?_)
    refine go hf ?_
    intro a hf
    exact rt hf rfl rfl ⟨rfl, hX.low⟩
def RcC (n : Nat) : Prop := ∀ (t : Tr), t.sz ≤ n → t.isV = true → ∀ (w : World) (R : Nat) (s : ByteArray) (p nd : Nat) (lv : Int) (post : List UInt8), s.size ≤ 1000000000 → t.snd = true → wfT t → 1 ≤ lv → lv + ((t.dep : Nat) : Int) ≤ 17 → nd + t.nod ≤ 1024 → U8 w → 1 < R → s.data.toList.drop p = t.cb ++ post → Box w R [.string s, .int .i64 (p : Int), .int .i64 (nd : Int)] → Calls Tryz.prog 83 #[.pointer (some ⟨R, 0, none⟩), .int .i64 lv] w fun e w' => ∃ cs, e = .returned (.agg cs.toArray) ∧ VAt w' (fun k => w.heap.size ≤ k) t cs ∧ Box w' R [.string s, .int .i64 ((p + t.cb.length : Nat) : Int), .int .i64 ((nd + t.nod : Nat) : Int)] ∧ w.grownBy w' (some R)
theorem nms_of {l : List Bs} {j : Nat} {m : Bs} (h : Tr.nmsOK [] l = true) (hj : l[j]? = some m) : Tr.isN m = true ∧ inN m (l.take j) = false := by
 refine ⟨isN_of [] l m h (List.mem_of_getElem? hj), ?_⟩
 cases e : inN m (l.take j) with
 | false => rfl
 | true => rw [nms_false l [] [] j m (fun _ => rfl) hj (.inr e)] at h; cases h
theorem prs_nth : ∀ (d : Tr) (j : Nat) (m : ByteArray) (t : Tr), d.prs[j]? = some (m, t) → d.nms[j]? = some m ∧ d.lst[j]? = some t
 | .nil, _, _, _, h => by cases h
 | .mk _ _ _ _ _, _, _, _, h => by cases h
 | .lcons _ _, _, _, _, h => by cases h
 | .fcons m t r, 0, _, _, h => by
  obtain ⟨rfl, rfl⟩ := Prod.mk.inj (Option.some.inj h)
  exact ⟨rfl, rfl⟩
 | .fcons m t r, j + 1, m', t', h => prs_nth r j m' t' h
theorem cbd_prs : ∀ d : Tr, d.isF = true → d.cb = d.prs.flatMap (fun p : ByteArray × Tr => (Tr.nb p.1.size ++ p.1.data.toList) ++ p.2.cb)
 | .nil, _ => rfl
 | .fcons m t r, h => by
  have := cbd_prs r h
  show (Tr.nb m.size ++ m.data.toList) ++ (t.cb ++ r.cb) = _
  rw [this]
  simp [Tr.prs]
 | .mk _ _ _ _ _, h => by cases h
 | .lcons _ _, h => by cases h
theorem cbl_lst : ∀ d : Tr, d.isL = true → d.cb = d.lst.flatMap Tr.cb
 | .nil, _ => rfl
 | .lcons t r, h => by
  have := cbl_lst r h
  show t.cb ++ r.cb = _
  rw [this]
  simp [Tr.lst]
 | .mk _ _ _ _ _, h => by cases h
 | .fcons _ _ _, h => by cases h
theorem nod_prs : ∀ d : Tr, d.isF = true → d.nod = (d.prs.map fun p => p.2.nod).sum
 | .nil, _ => rfl
 | .fcons m t r, h => by
  have := nod_prs r h
  show t.nod + r.nod = _
  rw [this]
  simp [Tr.prs]
 | .mk _ _ _ _ _, h => by cases h
 | .lcons _ _, h => by cases h
theorem NmAt.turn {W W' : World} {m R : Nat} {P : List Bs} (h : NmAt W m P) (hg : W.grownBy W' (some R)) (hm : m ≠ R) : NmAt W' m P := h.block (hg.block m h.lt (fun e => hm (Option.some.inj e)))
theorem U8.turn {W W' : World} {R : Nat} (h : U8 W) (hg : W.grownBy W' (some R)) (hR : 1 < R) : U8 W' := h.kept hg.size (hg.block 0 (Nat.lt_trans (by decide) h.2) (fun e => by have := Option.some.inj e; omega)) (hg.block 1 h.2 (fun e => by have := Option.some.inj e; omega))
theorem cfields_of {n0 : Nat} (hn : RcC n0) (dt : Tr) (hdF : dt.isF = true) (hsz : dt.sz ≤ n0 + 1) (hls : dt.snd = true) (hnm : Tr.nmsOK [] dt.nms = true) (hwt : wfT dt) (hlen : dt.len ≤ maxLen) (w : World) (R : Nat) (s : ByteArray) (p nd : Nat) (lv : Int) (post : List UInt8) (hs9 : s.size ≤ 1000000000) (hd1 : 1 ≤ lv) (hd2 : lv + ((dt.dep : Nat) : Int) ≤ 17) (hnd : nd + dt.nod ≤ 1024) (hU : U8 w) (hR1 : 1 < R) (hp : s.data.toList.drop p = (Tr.nb dt.len ++ dt.cb) ++ post) (hRb : Box w R [.string s, .int .i64 (p : Int), .int .i64 (nd : Int)]) : Calls Tryz.prog 101 #[.pointer (some ⟨R, 0, none⟩), .int .i64 lv] w fun e w' => ∃ v, e = .returned v ∧ FAt w' (fun k => w.heap.size ≤ k) dt v ∧ Box w' R [.string s, .int .i64 ((p + (Tr.nb dt.len ++ dt.cb).length : Nat) : Int), .int .i64 ((nd + dt.nod : Nat) : Int)] ∧ w.grownBy w' (some R) := by
 have hRw := hRb.lt
 rw [List.append_assoc] at hp
 have hp2 := drop_next hp
 rw [cbd_prs dt hdF] at hp2
 have hpl := prs_len dt hdF
 have hnl := Tr.nms_len dt hdF
 unfold maxLen at hlen
 refine cv2 Tryz.func101 rfl rfl rfl fun a hf => ?_
 have hX := Bx.start w
 clear hX
 have hX := Bx.bare w (fun k => k ≠ R)
 refine gc hf ?_
 intro a hf
 have hX0 := hX
 first | refine gc hf ?_ | refine go hf ?_
 intro a hf
 refine sv_mkm hf hX dd (fun a m1 W hm hf hX hA hN => ?_)
 have hwm : w.heap.size ≤ m1 := by rw [hm]; exact (hX0.bas _ List.mem_cons_self).1
 have hmR : m1 ≠ R := by omega
 replace hRb := hRb.keep hA
 replace hU := hU.below hA
 clear hm hA hX0
 refine go hf ?_
 intro a hf
 refine sv_call hf fnOK_99 rfl (count_any R s hs9 p nd (dt.len : Int) (wf_nat (by omega)) (by omega) _ hp _ hRb) dd ?_
 rintro e W2 ⟨rfl, hb, hg⟩
 replace hN := hN.turn hg hmR
 replace hU := hU.turn hg hR1
 replace hX := hX.grown hg (fun k e => by obtain rfl := Option.some.inj e; exact ⟨Nat.zero_le _, (fun x hx => by cases hx), fun p hp _ => by rw [List.mem_singleton.1 hp]; exact fun h => h rfl⟩)
 replace hRb := hb
 clear hb hg
 obtain ⟨W, hWW⟩ : ∃ X, X = W2 := ⟨_, rfl⟩
 subst hWW
 refine ⟨_, rfl, fun a hf => ?_⟩
 refine go hf ?_
 intro a hf
 refine wp_block (wp_loop (fun a X => ∃ (q pos nj : Nat) (vx : Value), FrV 47 [(0, .pointer (some ⟨R, 0, none⟩)), (1, .int .i64 lv), (5, vx), (6, .map (some m1)), (11, .int .i64 ((dt.len : Nat) : Int)), (12, .int .i64 (q : Int))] a ∧ Bx ⟨bare w, [(w, fun k => k ≠ R)]⟩ [] X ∧ q ≤ dt.len ∧ s.data.toList.drop pos = (dt.prs.drop q).flatMap (fun p : ByteArray × Tr => (Tr.nb p.1.size ++ p.1.data.toList) ++ p.2.cb) ++ post ∧ pos = p + (Tr.nb dt.len).length + ((dt.prs.take q).flatMap (fun p : ByteArray × Tr => (Tr.nb p.1.size ++ p.1.data.toList) ++ p.2.cb)).length ∧ nj + ((dt.prs.drop q).map fun p => p.2.nod).sum = nd + dt.nod ∧ Box X R [.string s, .int .i64 (pos : Int), .int .i64 (nj : Int)] ∧ NmAt X m1 (dt.nms.take q) ∧ U8 X ∧ RowE EF 78 6 w.heap.size (fun x => x = m1) X vx (dt.prs.take q)) (fun a _ => dt.len - (intOf (a.eval (.tmp 12))).toNat) ⟨0, p + (Tr.nb dt.len).length, nd, _, hf.sub (sub_cons rfl (sub_cons rfl (sub_cons rfl (sub_cons rfl (sub_cons rfl (sub_cons rfl (sub_nil))))))), hX, Nat.zero_le _, (by rw [List.drop_zero]; exact hp2), rfl, (by rw [List.drop_zero, nod_prs dt hdF]), hRb, hN, hU, RowE.nil W⟩ ?_)
 clear hf hX hRb hN hU
 rintro a W ⟨q, pos, nj, vx, hf, hX, hq, hdr, hpos, hsum, hRb, hN, hU, hL⟩
 have hm12 : a.eval (.tmp 12) = .int .i64 (q : Int) := hf.rel 12 _ rfl
 rcases Decidable.em ((q : Int) < ((dt.len : Nat) : Int)) with hgo | hgo
 ·
  refine gc hf ?_
  intro a hf
  refine ct hf hgo fun a hf => ?_
  refine go hf ?_
  intro a hf
  refine wp_block ?_
  have hjl : q < dt.prs.length := by omega
  obtain ⟨⟨m, t⟩, hpt⟩ : ∃ t, dt.prs[q]? = some t := ⟨_, List.getElem?_eq_getElem hjl⟩
  have hdj : dt.prs.drop q = (m, t) :: dt.prs.drop (q + 1) := by rw [List.drop_eq_getElem_cons hjl]; congr 1; exact Option.some.inj ((List.getElem?_eq_getElem hjl).symm.trans hpt)
  have htk : dt.prs.take q ++ [(m, t)] = dt.prs.take (q + 1) := by rw [List.take_add_one, hpt]; rfl
  have hst : ((dt.prs.take (q + 1)).flatMap (fun p : ByteArray × Tr => (Tr.nb p.1.size ++ p.1.data.toList) ++ p.2.cb)).length = ((dt.prs.take q).flatMap (fun p : ByteArray × Tr => (Tr.nb p.1.size ++ p.1.data.toList) ++ p.2.cb)).length + ((fun p : ByteArray × Tr => (Tr.nb p.1.size ++ p.1.data.toList) ++ p.2.cb) (m, t)).length := by rw [flat_step hpt, List.length_append]
  have hgl : ((fun p : ByteArray × Tr => (Tr.nb p.1.size ++ p.1.data.toList) ++ p.2.cb) (m, t)).length = (Tr.nb m.size).length + m.size + t.cb.length := by simp only [List.length_append, size_list]
  rw [hgl] at hst
  rw [hdj, List.map_cons, List.sum_cons] at hsum
  replace hsum : nj + (t.nod + ((dt.prs.drop (q + 1)).map fun p => p.2.nod).sum) = nd + dt.nod := hsum
  rw [hdj, List.flatMap_cons] at hdr
  replace hdr : s.data.toList.drop pos = Tr.nb m.size ++ (m.data.toList ++ (t.cb ++ ((dt.prs.drop (q + 1)).flatMap (fun p : ByteArray × Tr => (Tr.nb p.1.size ++ p.1.data.toList) ++ p.2.cb) ++ post))) := by rw [hdr]; simp only [List.append_assoc]
  have hdr2 := drop_next hdr
  have hdr3 := drop_next hdr2
  rw [size_list] at hdr3
  have hdr4 := drop_next hdr3
  obtain ⟨hmq, hlq⟩ := prs_nth dt q m t hpt
  obtain ⟨hisn, hbl⟩ := nms_of hnm hmq
  obtain ⟨hm32, _⟩ := isN_ne hisn
  have hm1 : 1 ≤ m.size := by unfold Tr.isN at hisn; simp only [Bool.and_eq_true, decide_eq_true_eq] at hisn; exact hisn.1.1.1
  have htl := List.mem_of_getElem? hlq
  have htsz := Tr.sz_lst dt t htl
  have hdl := dep_le dt t htl
  have hts := snd_of dt t hls htl
  obtain ⟨htw, htv⟩ := wfT_lst dt hwt t htl
  have hmp : pos + (Tr.nb m.size).length + m.size ≤ s.size := by have h := congrArg List.length hdr2; have h2 := congrArg List.length hdr; have h3 := vlq_pos (Tr.zz m.size); have h4 : (Tr.nb m.size).length = (vlq (Tr.zz m.size)).length := rfl; simp only [List.length_drop, List.length_append, size_list] at h h2; omega
  have hmk : mkS ((s.data.toList.drop (pos + (Tr.nb m.size).length)).take m.size) = m := by rw [hdr2, List.take_append_of_le_length (by rw [size_list]; exact Nat.le_refl _), List.take_of_length_le (by rw [size_list]; exact Nat.le_refl _)]; obtain ⟨⟨l⟩⟩ := m; rfl
  have hcnt : (dt.prs.take q).length < 1000000000 := by rw [List.length_take]; have h := len_le_flat (f := (fun p : ByteArray × Tr => (Tr.nb p.1.size ++ p.1.data.toList) ++ p.2.cb)) (fun x => by simp only [List.length_append]; have h3 := vlq_pos (Tr.zz x.1.size); have h4 : (Tr.nb x.1.size).length = (vlq (Tr.zz x.1.size)).length := rfl; omega) (dt.prs.take q); rw [List.length_take] at h; omega
  refine gc hf ?_
  intro a hf
  refine sv_call hf fnOK_98 rfl (cnum_any R s hs9 pos nj (m.size : Int) (wf_nat (by omega)) _ hdr _ hRb) dd ?_
  rintro e W2 ⟨rfl, hb, hg⟩
  replace hN := hN.turn hg hmR
  replace hU := hU.turn hg hR1
  replace hL := hL.grown ekF hg hRw
  replace hX := hX.grown hg (fun k e => by obtain rfl := Option.some.inj e; exact ⟨Nat.zero_le _, (fun x hx => by cases hx), fun p hp _ => by rw [List.mem_singleton.1 hp]; exact fun h => h rfl⟩)
  replace hRb := hb
  clear hb hg
  obtain ⟨W, hWW⟩ : ∃ X, X = W2 := ⟨_, rfl⟩
  subst hWW
  refine ⟨_, rfl, fun a hf => ?_⟩
  refine go hf ?_
  intro a hf
  refine sv_cmp hf rfl rfl true (congrArg some (decide_eq_true (by omega))) dd (fun a hf => ?_)
  refine go hf ?_
  intro a hf
  refine sv_cmp hf rfl rfl true (congrArg some (decide_eq_true (by omega))) dd (fun a hf => ?_)
  refine go hf ?_
  intro a hf
  refine sv_call hf fnOK_96 rfl (need_any _ _) dd ?_
  rintro e W' ⟨rfl, hw⟩
  subst hw
  refine ⟨_, rfl, fun a hf => ?_⟩
  refine go hf ?_
  intro a hf
  refine sv_call hf fnOK_97 rfl (take_any R s hs9 (pos + (Tr.nb m.size).length) nj m.size hmp _ hRb) dd ?_
  rw [hmk]
  rintro e W2 ⟨rfl, hb, hg⟩
  replace hN := hN.turn hg hmR
  replace hU := hU.turn hg hR1
  replace hL := hL.grown ekF hg hRw
  replace hX := hX.grown hg (fun k e => by obtain rfl := Option.some.inj e; exact ⟨Nat.zero_le _, (fun x hx => by cases hx), fun p hp _ => by rw [List.mem_singleton.1 hp]; exact fun h => h rfl⟩)
  replace hRb := hb
  clear hb hg
  obtain ⟨W, hWW⟩ : ∃ X, X = W2 := ⟨_, rfl⟩
  subst hWW
  refine ⟨_, rfl, fun a hf => ?_⟩
  refine go hf ?_
  intro a hf
  refine sv_call hf fnOK_118 rfl (cname_any m hisn _) dd ?_
  rintro e W ⟨rfl, hb⟩
  replace hX := hX.keep hb
  replace hRb := hRb.keep hb
  replace hU := hU.below hb
  replace hN := hN.below hb
  replace hL := hL.below ekF hb
  clear hb
  refine ⟨_, rfl, fun a hf => ?_⟩
  refine go hf ?_
  intro a hf
  refine sv_run (v := .bool false) hf dd (fun a hf => (ex_lkn hf rfl hN rfl rfl).trans (by rw [hbl])) (fun a hf => ?_)
  refine go hf ?_
  intro a hf
  refine sv_call hf fnOK_96 rfl (need_any _ _) dd ?_
  rintro e W' ⟨rfl, hw⟩
  subst hw
  refine ⟨_, rfl, fun a hf => ?_⟩
  refine go hf ?_
  intro a hf
  refine sv_upn (k := m) hf hX hN rfl rfl hbl (Nat.zero_le _) (fun y hy => by cases hy) (fun q hq hlt => by rw [List.mem_singleton.1 hq] at hlt; exact absurd hlt (Nat.not_lt_of_le hwm)) (fun W hX hN2 hg => ?_)
  replace hRb := hRb.grow hg (fun e => hmR (Option.some.inj e))
  replace hU := hU.turn hg (by omega)
  replace hL := hL.keep ekF hg.size (fun x _ hl hn => hg.block x hl (fun e => hn (Option.some.inj e)))
  replace hN := hN2
  clear hN2 hg
  refine go hf ?_
  intro a hf
  refine sv_call hf fnOK_83 rfl (hn t (by omega) htv _ R s (pos + (Tr.nb m.size).length + m.size) nj lv ((dt.prs.drop (q + 1)).flatMap (fun p : ByteArray × Tr => (Tr.nb p.1.size ++ p.1.data.toList) ++ p.2.cb) ++ post) hs9 hts htw hd1 (by omega) (by omega) hU hR1 hdr3 hRb) dd ?_
  rintro e W2 ⟨cs, rfl, hvt, hb, hg⟩
  have hG : ∀ x, _ ≤ x → w.heap.size ≤ x ∧ vx.ownBlock ≠ some x ∧ ¬ x = m1 := fun x hx => ⟨Nat.le_trans (hX.bas _ List.mem_cons_self).1 hx, fun e => absurd (hL.own x e).2.1 (Nat.not_lt_of_le hx), fun e => absurd hN.lt (Nat.not_lt_of_le (e ▸ hx))⟩
  replace hN := hN.turn hg hmR
  replace hU := hU.turn hg hR1
  replace hL := hL.grown ekF hg hRw
  replace hX := hX.grown hg (fun k e => by obtain rfl := Option.some.inj e; exact ⟨Nat.zero_le _, (fun x hx => by cases hx), fun p hp _ => by rw [List.mem_singleton.1 hp]; exact fun h => h rfl⟩)
  replace hRb := hb
  clear hb hg
  obtain ⟨W, hWW⟩ : ∃ X, X = W2 := ⟨_, rfl⟩
  subst hWW
  refine ⟨_, rfl, fun a hf => ?_⟩
  have hcs5 := hvt.len
  have hones5 := hvt.ones
  have hcs6 : (Value.string m :: cs).length = 6 := by rw [List.length_cons, hcs5]
  have hones : ∀ u ∈ (Value.string m :: cs), u.oneCell' = true := fun u hu => by rcases List.mem_cons.1 hu with rfl | hu; rfl; exact hones5 u hu
  refine sv_run (v := .agg (.string m :: cs).toArray) hf dd (fun a hf => ex_bldF hf rfl rfl rfl hcs5) (fun a hf => ?_)
  refine sv_bs1 (cs := (.string m :: cs)) hf hX rfl u27 zB_fld info_fld hcs6 dd dd dd (fun a G W hC hf hX hb => ?_)
  clear hC
  replace hRb := hRb.keep hb
  replace hU := hU.below hb
  replace hN := hN.below hb
  replace hL := hL.below ekF hb
  replace hvt := hvt.below hb
  clear hb
  refine sv_appE (pe := (m, t)) ekF hf hX rfl rfl u27 einfo3_fld rfl dd hcs6 hones hcnt dd hL ((hX.bas _ List.mem_cons_self).1) ⟨cs, rfl, (by show m.size ≤ _; unfold maxLen; omega), hvt⟩ hG (by rintro x rfl; exact hN.lt) (by intro x hx; cases hx) (Nat.zero_le _) (fun p hp => by rw [List.mem_singleton.1 hp]; exact Nat.le_refl _) dd (fun a vz W hf hX hL2 hg => ?_)
  have hvm : ∀ x, _ = some x → x ≠ m1 := fun x hx e => (hL.own x hx).2.2 e
  replace hRb := hRb.grow_own hg (fun x hx => (hL.own x hx).1) hRw
  replace hN := hN.block (hg.block m1 hN.lt (fun e => hvm m1 e.symm rfl))
  replace hU := hU.kept hg.size (hg.block 0 (Nat.lt_trans (by decide) hU.2) (fun e => by have := (hL.own 0 e.symm).1; omega)) (hg.block 1 hU.2 (fun e => by have := (hL.own 1 e.symm).1; omega))
  replace hL := hL2
  clear hL2 hg hvm
  refine go hf ?_
  intro a hf
  refine sv_add ((q + 1 : Nat) : Int) hf rfl rfl (by rw [wrap_in (by omega)]; rfl) dd (fun a hf => ?_)
  refine go hf ?_
  intro a hf
  rw [htk] at hL
  have hN2 : NmAt W m1 (dt.nms.take (q + 1)) := by rw [List.take_add_one, hmq]; exact hN
  refine ⟨⟨q + 1, _, _, _, hf.sub (sub_cons rfl (sub_cons rfl (sub_cons rfl (sub_cons rfl (sub_cons rfl (sub_cons rfl (sub_nil))))))), hX, by omega, hdr4, by omega, by omega, hRb, hN2, hU, hL⟩, ?_⟩
  have h5 : a.eval (.tmp 12) = .int .i64 ((q + 1 : Nat) : Int) := hf.rel 12 _ rfl
  rw [h5, hm12]; simp only [intOf, Int.toNat_natCast]; omega
 ·
  refine gc hf ?_
  intro a hf
  refine cf hf hgo fun a hf => ?_
  refine go hf ?_
  intro a hf
  refine wp_exit ?_
  simp only [Exit.inBlock, Exit.then, ↓reduceIte]
  obtain rfl : q = dt.len := by omega
  rw [← hpl, List.take_length] at hL hpos
  rw [hpl] at hpos
  rw [← hpl, List.drop_length] at hsum
  have hsum2 : nj = nd + dt.nod := hsum
  refine gc hf ?_
  intro a hf
  have hfin := hL.fat
  rw [ofF_prs dt hdF] at hfin
  exact rt hf rfl rfl ⟨_, rfl, hfin, (by rw [← hsum2, cbd_prs dt hdF, List.length_append, ← Nat.add_assoc, ← hpos]; exact hRb), ⟨hX.low.os, hX.low.tape, hX.low.output, (hX.bas _ List.mem_cons_self).1, fun k hk hne => (hX.bas _ List.mem_cons_self).2 k hk (fun e => hne (by rw [e]))⟩⟩
end Go.Proofs.YtilopjlcgmedgaaGreatDoor
