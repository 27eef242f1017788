/- Mvcc: the reference holds what the store holds (plain). -/
import Derived.Test.YtaecppkkbdbdbaaMv49
namespace Go.Proofs.Ytaecppkkbdbdbaa
open Go.ChangeShapes Go.WideShapes Go.ChangeAt Go.RowKit Go.Deep Go.ChangeMaps Go.Shelf Go.Sort
set_option linter.unusedVariables false
set_option linter.unusedSimpArgs false
structure Rep (Z : List Itm) (A : Bs → List Ver) : Prop where
  srt : Z.Pairwise fun a b => lB a.key b.key = true
  ne : ∀ z ∈ Z, z.vs ≠ []
  look : ∀ k, lookZ Z k = A k
theorem look_mem {Z : List Itm} (hs : Z.Pairwise fun a b => lB a.key b.key = true) {z : Itm} (hz : z ∈ Z) : lookZ Z z.key = z.vs := by
  obtain ⟨i, hi, rfl⟩ := List.getElem_of_mem hz
  have hp : posZ Z Z[i].key = i := posZ_eq (Nat.le_of_lt hi) (fun m hm => List.pairwise_iff_getElem.1 hs m i (by omega) hi hm) (fun _ => lB_irrefl _)
  have h1 : posZ Z Z[i].key < Z.length := by rw [hp]; exact hi
  have h2 : Z[posZ Z Z[i].key] = Z[i] := by congr 1
  rw [look_hit h1 (by rw [h2]), h2]
theorem look_not {Z : List Itm} {k : Bs} (h : ∀ z ∈ Z, z.key ≠ k) : lookZ Z k = [] := by
  by_cases hp : posZ Z k < Z.length
  · exact look_miss hp (h _ (List.getElem_mem hp))
  · exact look_end hp
theorem look_some {Z : List Itm} {k : Bs} (h : lookZ Z k ≠ []) : ∃ z ∈ Z, z.key = k := by
  refine Decidable.byContradiction fun hn => h (look_not fun z hz e => hn ⟨z, hz, e⟩)
theorem Rep.nil : Rep [] noA := ⟨List.Pairwise.nil, fun z hz => (by cases hz), fun _ => rfl⟩
theorem Rep.mem {Z : List Itm} {A : Bs → List Ver} (h : Rep Z A) {z : Itm} (hz : z ∈ Z) : z.vs = A z.key := by rw [← h.look, look_mem h.srt hz]
theorem Rep.add {Z Z' : List Itm} {A : Bs → List Ver} {key : Bs} {x : Ver} (h : Rep Z A) (ha : Added Z Z' key x) : Rep Z' (fun k => if k = key then A key ++ [x] else A k) := by
  obtain ⟨w, hk, hv, hZ⟩ := ha
  obtain ⟨d, hd⟩ : ∃ d, d = if (Z[posZ Z key]?).any (fun z => decide (z.key = key)) then 1 else 0 := ⟨_, rfl⟩
  rw [← hd] at hZ
  have hlo : ∀ z ∈ Z.take (posZ Z key), lB z.key key = true := fun z hz => by
    obtain ⟨i, hi, rfl⟩ := List.getElem_of_mem hz
    rw [List.length_take] at hi
    rw [List.getElem_take]
    exact posZ_lt (by omega) (by omega)
  have hhi : ∀ z ∈ Z.drop (posZ Z key + d), lB key z.key = true := fun z hz => by
    obtain ⟨i, hi, rfl⟩ := List.getElem_of_mem hz
    rw [List.length_drop] at hi
    rw [List.getElem_drop]
    have hp : posZ Z key < Z.length := by omega
    have hg := posZ_ge hp
    have hpos : Z[posZ Z key]? = some Z[posZ Z key] := List.getElem?_eq_getElem hp
    by_cases he : Z[posZ Z key].key = key
    · have hd1 : d = 1 := by rw [hd, hpos]; simp [he]
      have := List.pairwise_iff_getElem.1 h.srt (posZ Z key) (posZ Z key + d + i) hp (by omega) (by omega)
      rw [he] at this
      exact this
    · have hd0 : d = 0 := by rw [hd, hpos]; simp [he]
      have h1 : lB key Z[posZ Z key].key = true := by
        cases hb : lB key Z[posZ Z key].key with
        | true => rfl
        | false => exact absurd (lB_tri hg hb) he
      by_cases hi0 : posZ Z key + d + i = posZ Z key
      · have e2 : Z[posZ Z key + d + i] = Z[posZ Z key] := by congr 1
        rw [e2]
        exact h1
      · exact lB_trans h1 (List.pairwise_iff_getElem.1 h.srt (posZ Z key) (posZ Z key + d + i) hp (by omega) (by omega))
  have hsrt : Z'.Pairwise fun a b => lB a.key b.key = true := by
    rw [hZ]
    refine List.pairwise_append.2 ⟨h.srt.sublist (List.take_sublist _ _), List.pairwise_cons.2 ⟨fun z hz => by rw [hk]; exact hhi z hz, h.srt.sublist (List.drop_sublist _ _)⟩, fun a ha b hb => ?_⟩
    rcases List.mem_cons.1 hb with rfl | hb
    · rw [hk]; exact hlo a ha
    · exact lB_trans (hlo a ha) (hhi b hb)
  have hmem : ∀ z, z ∈ Z' ↔ z = w ∨ (z ∈ Z ∧ z.key ≠ key) := fun z => by
    rw [hZ, List.mem_append, List.mem_cons]
    constructor
    · rintro (h1 | h1 | h1)
      · exact .inr ⟨List.mem_of_mem_take h1, lB_ne (hlo z h1)⟩
      · exact .inl h1
      · exact .inr ⟨List.mem_of_mem_drop h1, fun e => lB_ne (hhi z h1) e.symm⟩
    · rintro (h1 | ⟨h1, h2⟩)
      · exact .inr (.inl h1)
      · obtain ⟨i, hi, rfl⟩ := List.getElem_of_mem h1
        by_cases hip : i < posZ Z key
        · refine .inl ?_
          have : (Z.take (posZ Z key))[i]'(by rw [List.length_take]; omega) = Z[i] := List.getElem_take
          rw [← this]
          exact List.getElem_mem _
        · have hp : posZ Z key < Z.length := by omega
          have hpos : Z[posZ Z key]? = some Z[posZ Z key] := List.getElem?_eq_getElem hp
          have hid : posZ Z key + d ≤ i := by
            by_cases he : Z[posZ Z key].key = key
            · have hne : i ≠ posZ Z key := fun e => h2 (by have e2 : Z[i] = Z[posZ Z key] := by congr 1
                                                           rw [e2]; exact he)
              have : d ≤ 1 := by rw [hd]; split <;> omega
              omega
            · have hd0 : d = 0 := by rw [hd, hpos]; simp [he]
              omega
          refine .inr (.inr ?_)
          have : (Z.drop (posZ Z key + d))[i - (posZ Z key + d)]'(by rw [List.length_drop]; omega) = Z[i] := by
            rw [List.getElem_drop]
            congr 1
            omega
          rw [← this]
          exact List.getElem_mem _
  refine ⟨hsrt, fun z hz => ?_, fun k => ?_⟩
  · rcases (hmem z).1 hz with rfl | ⟨h1, _⟩
    · rw [hv]; simp
    · exact h.ne z h1
  · by_cases e : k = key
    · show _ = if k = key then _ else _
      rw [if_pos e, e]
      have := look_mem hsrt ((hmem w).2 (.inl rfl))
      rw [hk] at this
      rw [this, hv, h.look]
    · show _ = if k = key then _ else _
      rw [if_neg e, ← h.look]
      by_cases hx : ∃ z ∈ Z, z.key = k
      · obtain ⟨z, hz, rfl⟩ := hx
        rw [look_mem h.srt hz, look_mem hsrt ((hmem z).2 (.inr ⟨hz, e⟩))]
      · rw [look_not fun z hz e2 => hx ⟨z, hz, e2⟩, look_not fun z hz e2 => ?_]
        rcases (hmem z).1 hz with rfl | ⟨h1, _⟩
        · exact e (by rw [← e2, hk])
        · exact hx ⟨z, h1, e2⟩
theorem mem_kv {Z : List Itm} {p : Bs × List Ver} : p ∈ kv Z ↔ ∃ z ∈ Z, z.key = p.1 ∧ z.vs = p.2 := by
  unfold kv
  rw [List.mem_map]
  constructor
  · rintro ⟨z, hz, rfl⟩
    exact ⟨z, hz, rfl, rfl⟩
  · rintro ⟨z, hz, h1, h2⟩
    exact ⟨z, hz, by rw [h1, h2]⟩
theorem mem_sweepL {f : List Ver → List Ver} {M : List (Bs × List Ver)} {p : Bs × List Ver} : p ∈ sweepL f M ↔ p.2 ≠ [] ∧ ∃ q ∈ M, q.1 = p.1 ∧ f q.2 = p.2 := by
  unfold sweepL
  rw [List.mem_filter, List.mem_map]
  constructor
  · rintro ⟨⟨q, hq, rfl⟩, h2⟩
    refine ⟨fun e => ?_, q, hq, rfl, rfl⟩
    rw [e] at h2
    cases h2
  · rintro ⟨h1, q, hq, h2, h3⟩
    refine ⟨⟨q, hq, by rw [h2, h3]⟩, ?_⟩
    cases hp : p.2 with
    | nil => exact absurd hp h1
    | cons => rfl
theorem Rep.sweep {Z Z' : List Itm} {A : Bs → List Ver} {f : List Ver → List Ver} (h : Rep Z A) (f0 : f [] = []) (hs : kv Z' = sweepL f (kv Z)) : Rep Z' (fun k => f (A k)) := by
  have hkey : Z'.map (·.key) = ((sweepL f (kv Z)).map (·.1)) := by
    rw [← hs]
    unfold kv
    rw [List.map_map]
    rfl
  have hsub : (Z'.map (·.key)).Sublist (Z.map (·.key)) := by
    rw [hkey]
    have : (Z.map (·.key)) = ((kv Z).map fun p => (p.1, f p.2)).map (·.1) := by
      unfold kv
      rw [List.map_map, List.map_map]
      rfl
    rw [this]
    exact List.filter_sublist.map _
  have hsrt : Z'.Pairwise fun a b => lB a.key b.key = true := by
    have h1 : (Z.map (·.key)).Pairwise fun a b => lB a b = true := List.pairwise_map.2 h.srt
    exact List.pairwise_map.1 (h1.sublist hsub)
  have hm : ∀ z ∈ Z', z.vs ≠ [] ∧ ∃ y ∈ Z, y.key = z.key ∧ f y.vs = z.vs := fun z hz => by
    have h1 : (z.key, z.vs) ∈ sweepL f (kv Z) := by rw [← hs]; exact mem_kv.2 ⟨z, hz, rfl, rfl⟩
    obtain ⟨h2, q, hq, h3, h4⟩ := mem_sweepL.1 h1
    obtain ⟨y, hy, h5, h6⟩ := mem_kv.1 hq
    exact ⟨h2, y, hy, by rw [h5, h3], by rw [h6, h4]⟩
  refine ⟨hsrt, fun z hz => (hm z hz).1, fun k => ?_⟩
  show lookZ Z' k = f (A k)
  rw [← h.look]
  by_cases hx : ∃ y ∈ Z, y.key = k
  · obtain ⟨y, hy, rfl⟩ := hx
    rw [look_mem h.srt hy]
    by_cases he : f y.vs = []
    · rw [he]
      refine look_not fun z hz e => ?_
      obtain ⟨h1, y2, hy2, h3, h4⟩ := hm z hz
      have h5 : y2.vs = y.vs := by rw [← look_mem h.srt hy2, ← look_mem h.srt hy, h3, e]
      rw [h5, he] at h4
      exact h1 h4.symm
    · have h1 : (y.key, f y.vs) ∈ kv Z' := by rw [hs]; exact mem_sweepL.2 ⟨he, (y.key, y.vs), mem_kv.2 ⟨y, hy, rfl, rfl⟩, rfl, rfl⟩
      obtain ⟨z, hz, h2, h3⟩ := mem_kv.1 h1
      have h2' : z.key = y.key := h2
      have h3' : z.vs = f y.vs := h3
      rw [← h2', look_mem hsrt hz, h3']
  · rw [look_not fun z hz e => hx ⟨z, hz, e⟩, f0]
    refine look_not fun z hz e => ?_
    obtain ⟨_, y, hy, h3, _⟩ := hm z hz
    exact hx ⟨y, hy, by rw [h3, e]⟩
end Go.Proofs.Ytaecppkkbdbdbaa
