/- Btree: the iterator that Scan returns, on any tree. -/
import Derived.Test.YtegljepgncicjaaBu20
namespace Go.Proofs.Ytegljepgncicjaa
open Go.ChangeShapes Go.WideShapes Go.ChangeAt Go.RowKit Go.Deep Go.Shelf
set_option linter.unusedVariables false
set_option linter.unusedSimpArgs false
attribute [local go_sem] Oper.semAt_some
attribute [local go_sem, local simp] wide_fn
def bdOf (hi : Bs) : Bool := !(hi.toList).isEmpty
def dirL (back : Bool) (L : List Pr) : List Pr := if back = true then L.reverse else L
def scanL (lo hi : Bs) (back : Bool) (L : List Pr) : List Pr := (dirL back L).filter (inU lo hi (bdOf hi))
def ScanPost (lo hi : Bs) (back : Bool) (L : List Pr) (J Jx : List Pr → World → Prop) : Ending → World → Prop := SeqOut (fun ys => ys = scanL lo hi back L) (fun pre => pre <+: scanL lo hi back L) J Jx
theorem scan_post {n₀ : Nat} {J Jx : List Pr → World → Prop} {Y : List Pr} {stop : Bool} {W : World} {e : Ending} {W' : World} (h : SOut n₀ J Jx [] Y stop W e W') : (∃ b, e = .returned (.bool b)) ∧ ((∃ xs, xs = Y ∧ J xs W') ∨ (∃ pre, pre <+: Y ∧ Jx pre W')) := by
  rcases h with ⟨_, rfl, h, _⟩ | ⟨_, rfl, h, _⟩ | ⟨rfl, pre, hp, hx⟩
  · exact ⟨⟨_, rfl⟩, .inl ⟨_, rfl, h⟩⟩
  · exact ⟨⟨_, rfl⟩, .inl ⟨_, rfl, h⟩⟩
  · exact ⟨⟨_, rfl⟩, .inr ⟨_, hp, hx⟩⟩
set_option maxRecDepth 100000 in
set_option maxHeartbeats 1600000 in
theorem scan1_up (m l n₀ N T bt bb bl bh : Nat) (lo hi : Bs) (L : List Pr) (J Jx : List Pr → World → Prop) (W : World)
    (hup : CallsIn Fence.wide (m - 1) Try.prog 41 (upArgs N l lo hi (bdOf hi)) W.drew (SOut n₀ J Jx [] (L.filter (inU lo hi (bdOf hi))) (L.any (ovU lo hi (bdOf hi))) W.drew))
    (c1 : W.cell? ⟨bt, 0, none⟩ = some (.pointer (some ⟨T, 0, none⟩))) (c2 : W.cell? ⟨bb, 0, none⟩ = some (.bool false)) (c3 : W.cell? ⟨bl, 0, none⟩ = some (.string lo)) (c4 : W.cell? ⟨bh, 0, none⟩ = some (.string hi))
    (cT : W.cell? ⟨T, 2, none⟩ = some (.pointer (some ⟨N, 0, none⟩))) :
    CallsIn Fence.wide m Try.prog 39 #[.func (.yield l) #[] #[], .pointer (some ⟨bt, 0, none⟩), .pointer (some ⟨bb, 0, none⟩), .pointer (some ⟨bl, 0, none⟩), .pointer (some ⟨bh, 0, none⟩)] W
      (ScanPost lo hi false L J Jx) := by
  have HP := Lib.hid hup
  have hbd : (!(ByteArray.toList hi).isEmpty) = bdOf hi := rfl
  clear hup
  refine callsIn_of_wp Try.func39 rfl trivial ?_ rfl
  simp only [Try.ntmps39, List.size_toArray, List.length_cons, List.length_nil, Nat.reduceAdd, Nat.reduceSub, Array.replicate_succ, Array.replicate_zero, List.push_toArray, List.append_toArray, List.nil_append, List.cons_append]
  gi_wp2
  refine wpIn_region_stI 10 (by kernel_rfl) (by kernel_rfl) ?_
  simp only [List.take_succ_cons, List.take_zero, List.drop_succ_cons, List.drop_zero]
  refine stI_go (by kernel_rfl) (fun K hK => ?_)
  go_simp
  refine hK _ ?_
  clear hK K
  refine stI_go (by kernel_rfl) (fun K hK => ?_)
  go_simp
  refine hK _ ?_
  clear hK K
  refine stI_go (by kernel_rfl) (fun K hK => ?_)
  go_simp
  refine hK _ ?_
  clear hK K
  refine stI_go (by kernel_rfl) (fun K hK => ?_)
  go_simp
  refine hK _ ?_
  clear hK K
  refine stI_go (by kernel_rfl) (fun K hK => ?_)
  go_simp
  refine hK _ ?_
  clear hK K
  refine stI_go (by kernel_rfl) (fun K hK => ?_)
  go_simp
  refine hK _ ?_
  clear hK K
  refine stI_go (by kernel_rfl) (fun K hK => ?_)
  go_simp
  refine hK _ ?_
  clear hK K
  refine stI_go (by kernel_rfl) (fun K hK => ?_)
  go_simp
  refine hK _ ?_
  clear hK K
  refine stI_go (by kernel_rfl) (fun K hK => ?_)
  go_simp
  refine hK _ ?_
  clear hK K
  refine stI_go (by kernel_rfl) (fun K hK => ?_)
  go_simp
  refine hK _ ?_
  clear hK K
  refine stI_nil ?_
  clear c1 c2 c3 c4 cT
  gi_wp2
  refine ⟨fun h => (by cases h), HP.out.mono ?_⟩
  clear HP
  rintro e W1 hr
  obtain ⟨⟨b, rfl⟩, hr2⟩ := scan_post hr
  have HR := Lib.hid hr2
  clear hr hr2
  gi_wp2
  go_end0
  exact ⟨⟨_, rfl⟩, HR.out⟩
set_option maxRecDepth 100000 in
set_option maxHeartbeats 1600000 in
theorem scan1_dn (m l n₀ N T bt bb bl bh : Nat) (lo hi : Bs) (L : List Pr) (J Jx : List Pr → World → Prop) (W : World)
    (hup : CallsIn Fence.wide (m - 1) Try.prog 40 (upArgs N l lo hi (bdOf hi)) W.drew (SOut n₀ J Jx [] (L.reverse.filter (inU lo hi (bdOf hi))) (L.reverse.any (ovD lo hi (bdOf hi))) W.drew))
    (c1 : W.cell? ⟨bt, 0, none⟩ = some (.pointer (some ⟨T, 0, none⟩))) (c2 : W.cell? ⟨bb, 0, none⟩ = some (.bool true)) (c3 : W.cell? ⟨bl, 0, none⟩ = some (.string lo)) (c4 : W.cell? ⟨bh, 0, none⟩ = some (.string hi))
    (cT : W.cell? ⟨T, 2, none⟩ = some (.pointer (some ⟨N, 0, none⟩))) :
    CallsIn Fence.wide m Try.prog 39 #[.func (.yield l) #[] #[], .pointer (some ⟨bt, 0, none⟩), .pointer (some ⟨bb, 0, none⟩), .pointer (some ⟨bl, 0, none⟩), .pointer (some ⟨bh, 0, none⟩)] W
      (ScanPost lo hi true L J Jx) := by
  have HP := Lib.hid hup
  have hbd : (!(ByteArray.toList hi).isEmpty) = bdOf hi := rfl
  clear hup
  refine callsIn_of_wp Try.func39 rfl trivial ?_ rfl
  simp only [Try.ntmps39, List.size_toArray, List.length_cons, List.length_nil, Nat.reduceAdd, Nat.reduceSub, Array.replicate_succ, Array.replicate_zero, List.push_toArray, List.append_toArray, List.nil_append, List.cons_append]
  gi_wp2
  refine wpIn_region_stI 10 (by kernel_rfl) (by kernel_rfl) ?_
  simp only [List.take_succ_cons, List.take_zero, List.drop_succ_cons, List.drop_zero]
  refine stI_go (by kernel_rfl) (fun K hK => ?_)
  go_simp
  refine hK _ ?_
  clear hK K
  refine stI_go (by kernel_rfl) (fun K hK => ?_)
  go_simp
  refine hK _ ?_
  clear hK K
  refine stI_go (by kernel_rfl) (fun K hK => ?_)
  go_simp
  refine hK _ ?_
  clear hK K
  refine stI_go (by kernel_rfl) (fun K hK => ?_)
  go_simp
  refine hK _ ?_
  clear hK K
  refine stI_go (by kernel_rfl) (fun K hK => ?_)
  go_simp
  refine hK _ ?_
  clear hK K
  refine stI_go (by kernel_rfl) (fun K hK => ?_)
  go_simp
  refine hK _ ?_
  clear hK K
  refine stI_go (by kernel_rfl) (fun K hK => ?_)
  go_simp
  refine hK _ ?_
  clear hK K
  refine stI_go (by kernel_rfl) (fun K hK => ?_)
  go_simp
  refine hK _ ?_
  clear hK K
  refine stI_go (by kernel_rfl) (fun K hK => ?_)
  go_simp
  refine hK _ ?_
  clear hK K
  refine stI_go (by kernel_rfl) (fun K hK => ?_)
  go_simp
  refine hK _ ?_
  clear hK K
  refine stI_nil ?_
  clear c1 c2 c3 c4 cT
  gi_wp2
  refine ⟨fun h => (by cases h), HP.out.mono ?_⟩
  clear HP
  rintro e W1 hr
  obtain ⟨⟨b, rfl⟩, hr2⟩ := scan_post hr
  have HR := Lib.hid hr2
  clear hr hr2
  gi_wp2
  go_end0
  exact ⟨⟨_, rfl⟩, HR.out⟩
set_option maxRecDepth 100000 in
theorem scan1_none (m l T bt bb bl bh : Nat) (lo hi : Bs) (back : Bool) (J Jx : List Pr → World → Prop) (W : World)
    (c1 : W.cell? ⟨bt, 0, none⟩ = some (.pointer (some ⟨T, 0, none⟩))) (cT : W.cell? ⟨T, 2, none⟩ = some (.pointer none)) (hj : J [] W) :
    CallsIn Fence.wide m Try.prog 39 #[.func (.yield l) #[] #[], .pointer (some ⟨bt, 0, none⟩), .pointer (some ⟨bb, 0, none⟩), .pointer (some ⟨bl, 0, none⟩), .pointer (some ⟨bh, 0, none⟩)] W
      (ScanPost lo hi back [] J Jx) := by
  have HJ := Lib.hid hj
  clear hj
  refine callsIn_of_wp Try.func39 rfl trivial ?_ rfl
  simp only [Try.ntmps39, List.size_toArray, List.length_cons, List.length_nil, Nat.reduceAdd, Nat.reduceSub, Array.replicate_succ, Array.replicate_zero, List.push_toArray, List.append_toArray, List.nil_append, List.cons_append]
  gi_wp2
  refine bodyPost_ret (results_none rfl _ _ _) rfl ?_
  exact ⟨⟨_, rfl⟩, .inl ⟨_, by unfold scanL dirL; cases back <;> rfl, HJ.out⟩⟩
theorem stops_T (n b T o : Nat) (lo hi : Bs) (back : Bool) (L : List Pr) (Y : Nat → Prop) (W0 W : World) (h : Tr W0 T o L Y) (hb0 : Below W0.heap.size W0 W) (hb : ScanBoxes W b (some ⟨T, 0, none⟩) lo hi back) :
    SeqStopsK Fence.wide n Try.prog 39 (scanLb b) encP (Below W0.heap.size) (fun ys => ys = scanL lo hi back L) (fun pre => pre <+: scanL lo hi back L) (scanL lo hi back L).length W := fun l J Jx W1 hW hJ _ hY hj => by
  have hb1 := hb.below hW
  have hb2 : Below W0.heap.size W0 W1 := hb0.trans (hW.mono hb0.size)
  have hYY : Yields l W0.heap.size (scanL lo hi back L).length J Jx := ⟨fun m pre x W hj hl => yieldAt_any (hY pre x W hj hl), fun pre W q h => abides_drewN hJ pre W q h⟩
  obtain ⟨r, σ, hbox, hq, hR, hs, h4, h6⟩ := h.hq
  have cT := (hb2.cell (p := ⟨T, 2, none⟩) hbox.lt).trans (hbox.cell 2 _ rfl)
  have hq1 := (hq.below hb2).drewN 1
  cases r with
  | none =>
    have hL : L = [] := hR
    subst hL
    exact scan1_none n l T b (b + 3) (b + 1) (b + 2) lo hi back J Jx W1 hb1.c1 cT hj
  | some N =>
    obtain ⟨hh, S, hT⟩ := hR
    cases back with
    | false => exact scan1_up n l W0.heap.size N T b (b + 3) (b + 1) (b + 2) lo hi L J Jx W1 (up_T l W0.heap.size _ o lo hi (bdOf hi) J Jx hYY σ h6 hh 1 o N L S hT h6 hs (n - 1) [] W1.drew hq1 (hYY.2 _ _ 1 hj) (by simp [scanL, dirL])) hb1.c1 hb1.c4 hb1.c2 hb1.c3 cT
    | true => exact scan1_dn n l W0.heap.size N T b (b + 3) (b + 1) (b + 2) lo hi L J Jx W1 (down_T l W0.heap.size _ o lo hi (bdOf hi) J Jx hYY σ h6 hh 1 o N L S hT h6 hs (n - 1) [] W1.drew hq1 (hYY.2 _ _ 1 hj) (by simp [scanL, dirL])) hb1.c1 hb1.c4 hb1.c2 hb1.c3 cT
end Go.Proofs.Ytegljepgncicjaa
