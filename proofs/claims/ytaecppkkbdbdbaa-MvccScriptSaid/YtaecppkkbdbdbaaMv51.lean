/- Mvcc: the reference and a store at work hold the same (plain). -/
import Derived.Test.YtaecppkkbdbdbaaMv50
namespace Go.Proofs.Ytaecppkkbdbdbaa
open Go.ChangeShapes Go.WideShapes Go.ChangeAt Go.RowKit Go.Deep Go.ChangeMaps Go.Shelf Go.Sort
set_option linter.unusedVariables false
set_option linter.unusedSimpArgs false
section
variable {Z : List Itm} {E : List En}
theorem Rep.keys (g : Gd E) (h : Rep Z (lkL E)) : ordE E = Z.map (·.key) := by
  refine ord_of g _ (List.pairwise_map.2 h.srt) fun k => ?_
  rw [List.mem_map]
  constructor
  · rintro ⟨z, hz, rfl⟩
    rw [← h.mem hz]
    exact h.ne z hz
  · intro hk
    rw [← h.look] at hk
    obtain ⟨z, hz, e⟩ := look_some hk
    exact ⟨z, hz, e⟩
theorem Rep.len (g : Gd E) (h : Rep Z (lkL E)) : Z.length = E.length := by
  have h1 := congrArg List.length (h.keys g)
  rw [List.length_map, (show (ordE E).Perm (E.map (fun e : En => e.key)) from sortB_perm _).length_eq, List.length_map] at h1
  exact h1.symm
theorem Rep.cnt (g : Gd E) (h : Rep Z (lkL E)) (f : List Ver → Nat) : cntL f Z = (E.map fun e => f e.vs).sum := by
  rw [sum_ord g f, h.keys g, List.map_map]
  unfold cntL
  congr 1
  exact List.map_congr_left fun z hz => by show f z.vs = f (lkL E z.key); rw [← h.mem hz]
theorem flatMap_same {α β : Type} {f g : α → List β} {l : List α} (h : ∀ x ∈ l, f x = g x) : l.flatMap f = l.flatMap g := by
  induction l with
  | nil => rfl
  | cons a l ih =>
    rw [List.flatMap_cons, List.flatMap_cons, h a (List.mem_cons_self ..), ih (fun x hx => h x (List.mem_cons_of_mem _ hx))]
theorem Rep.all (g : Gd E) (h : Rep Z (lkL E)) : allZ Z = vw E := by
  unfold vw allK allZ
  rw [h.keys g, List.flatMap_map]
  exact flatMap_same fun z hz => by rw [h.mem hz]
theorem filterMap_same2 {α β : Type} {f g : α → Option β} {l : List α} (h : ∀ x ∈ l, f x = g x) : l.filterMap f = l.filterMap g := by
  induction l with
  | nil => rfl
  | cons a l ih =>
    rw [List.filterMap_cons, List.filterMap_cons, h a (List.mem_cons_self ..), ih (fun x hx => h x (List.mem_cons_of_mem _ hx))]
theorem Rep.scan (g : Gd E) (h : Rep Z (lkL E)) (t : Int) (lo hi : Bs) (back : Bool) : (dirZ back Z).filterMap (scanF t lo hi) = scanK E t (scanT E lo hi back) := by
  have h0 : Z.filterMap (scanF t lo hi) = scanK E t (scanT E lo hi false) := by
    unfold scanK
    rw [show scanT E lo hi false = (ordE E).filter (inR lo hi) from rfl, h.keys g, List.filterMap_filter, List.filterMap_map]
    refine filterMap_same2 fun z hz => ?_
    show scanF t lo hi z = if inR lo hi z.key = true then (valAt (lkL E z.key) t).map (fun v => (z.key, v)) else none
    unfold scanF
    rw [h.mem hz]
  cases back with
  | false => exact h0
  | true =>
    show (Z.reverse).filterMap _ = _
    rw [List.filterMap_reverse, h0]
    have e1 : scanT E lo hi true = (scanT E lo hi false).reverse := rfl
    rw [e1]
    unfold scanK
    rw [List.filterMap_reverse]
end
def DelA (A : Bs → List Ver) : Prop := ∀ k, DelOk (A k)
theorem DelA.nil : DelA noA := fun _ x hx => by cases hx
theorem DelA.step {A : Bs → List Ver} (h : DelA A) (x : Opv) : DelA (stepA A x) := by
  have hadd : ∀ (key : Bs) (y : Ver), (y.2.2 = true → y.2.1 = ⟨#[]⟩) → DelA (addA A key y) := fun key y hy k z hz hd => by
    unfold addA at hz
    split at hz
    · have hz' : z ∈ if k = key then A key ++ [y] else A k := hz
      split at hz'
      · rcases List.mem_append.1 hz' with h1 | h1
        · exact h key z h1 hd
        · obtain rfl := List.mem_singleton.1 h1
          exact hy hd
      · exact h k z hz' hd
    · exact h k z hz hd
  unfold stepA
  split
  · exact hadd _ _ (fun e => by cases e)
  · split
    · exact hadd _ _ (fun _ => rfl)
    · split
      · exact fun k z hz hd => h k z (List.mem_of_mem_take hz) hd
      · split
        · exact fun k z hz hd => h k z (List.mem_of_mem_drop hz) hd
        · exact h
/-- a step of the reference's store -/
theorem Rep.put {Z Z' : List Itm} {A : Bs → List Ver} {key : Bs} {x : Ver} (h : Rep Z A) (hok : okT (A key) x.1) (ha : Added Z Z' key x) : Rep Z' (addA A key x) := by
  unfold addA
  rw [if_pos hok]
  exact h.add ha
end Go.Proofs.Ytaecppkkbdbdbaa
