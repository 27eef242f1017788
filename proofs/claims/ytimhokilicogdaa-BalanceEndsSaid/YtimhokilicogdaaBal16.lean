/- Balance: plain: which shards are picked. -/
import Derived.Test.YtimhokilicogdaaBal15
namespace Go.Proofs.Ytimhokilicogdaa
set_option linter.unusedVariables false
set_option linter.unusedSimpArgs false
/-- the last pick among the first k shards -/
def pick (ok : Nat → Bool) (bet : Int → Int → Bool) (f : Nat → Int) : Nat → Option Nat
  | 0 => none
  | k + 1 => match pick ok bet f k with
    | none => if ok k then some k else none
    | some m => if ok k && bet (f k) (f m) then some k else some m
def less (a b : Int) : Bool := decide (a < b)
def more (a b : Int) : Bool := decide (b < a)
/-- the number of a shard, or -1 -/
def oi : Option Nat → Int
  | none => -1
  | some m => m
theorem pick_lt {ok : Nat → Bool} {bet : Int → Int → Bool} {f : Nat → Int} : ∀ {k m : Nat}, pick ok bet f k = some m → m < k
  | 0, m, h => by simp [pick] at h
  | k + 1, m, h => by
    unfold pick at h
    split at h
    · split at h
      · simp at h; omega
      · simp at h
    · rename_i m' he
      have := pick_lt he
      split at h
      · simp at h; omega
      · simp at h; omega
theorem pick_ok {ok : Nat → Bool} {bet : Int → Int → Bool} {f : Nat → Int} : ∀ {k m : Nat}, pick ok bet f k = some m → ok m = true
  | 0, m, h => by simp [pick] at h
  | k + 1, m, h => by
    unfold pick at h
    split at h
    · split at h
      · rename_i hk; simp at h; subst h; exact hk
      · simp at h
    · rename_i m' he
      have := pick_ok he
      split at h
      · rename_i hk; simp at h; subst h; simp at hk; exact hk.1
      · simp at h; subst h; exact this
theorem pick_no {ok : Nat → Bool} {bet : Int → Int → Bool} {f : Nat → Int} {k : Nat} (h : ok k = false) : pick ok bet f (k + 1) = pick ok bet f k := by
  rw [pick]
  split
  · rename_i he; simp [h, he]
  · rename_i m he; simp [h, he]
theorem pick_first {ok : Nat → Bool} {bet : Int → Int → Bool} {f : Nat → Int} {k : Nat} (h : ok k = true) (hn : pick ok bet f k = none) : pick ok bet f (k + 1) = some k := by
  rw [pick, hn]; simp [h]
theorem pick_better {ok : Nat → Bool} {bet : Int → Int → Bool} {f : Nat → Int} {k m : Nat} (h : ok k = true) (hn : pick ok bet f k = some m) (hb : bet (f k) (f m) = true) : pick ok bet f (k + 1) = some k := by
  rw [pick, hn]; simp [h, hb]
theorem pick_worse {ok : Nat → Bool} {bet : Int → Int → Bool} {f : Nat → Int} {k m : Nat} (hn : pick ok bet f k = some m) (hb : bet (f k) (f m) = false) : pick ok bet f (k + 1) = some m := by
  rw [pick, hn]; simp [hb]
def ldf (cs : List Ch) (s : Nat) : Int := (cntOf cs false s : Nat)
theorem ldf_nonneg (cs : List Ch) (s : Nat) : 0 ≤ ldf cs s := Int.natCast_nonneg _
theorem ldf_load (cs : List Ch) (s : Nat) : ldf cs s = (loadOf cs (s : Int) : Nat) := by simp [ldf, cntOf, loadOf]
theorem ldf_counts (cs : List Ch) (n s : Nat) (h : s < (counts cs false n).length) : (counts cs false n)[s] = ldf cs s := by simp [counts, ldf]
def drn (xs : List Int) (s : Nat) : Bool := decide ((s : Int) ∈ xs)
def toOf (cs : List Ch) (xs : List Int) (k : Nat) : Option Nat := pick (fun s => !drn xs s) less (ldf cs) k
def fullOf (cs : List Ch) (xs : List Int) (k : Nat) : Option Nat := pick (fun s => !drn xs s) more (ldf cs) k
def emptyOf (cs : List Ch) (xs : List Int) (k : Nat) : Option Nat := pick (fun s => drn xs s && decide (0 < ldf cs s)) more (ldf cs) k
def drnOf (cs : List Ch) (xs : List Int) (k : Nat) : Option Nat := pick (drn xs) more (ldf cs) k
/-- from where and to where -/
def wayOf (cs : List Ch) (xs : List Int) (n : Nat) : Option (Nat × Nat) :=
  match toOf cs xs n with
  | none => none
  | some t => match emptyOf cs xs n with
    | some f => some (f, t)
    | none => match fullOf cs xs n with
      | none => none
      | some f => if ldf cs f < ldf cs t + 2 then none else some (f, t)
theorem full_some {cs : List Ch} {xs : List Int} : ∀ {k t : Nat}, toOf cs xs k = some t → ∃ f, fullOf cs xs k = some f := by
  intro k
  induction k with
  | zero => intro t h; simp [toOf, pick] at h
  | succ k ih =>
    intro t h
    unfold fullOf
    by_cases hd : drn xs k = true
    · rw [pick_no (by simp [hd])]
      unfold toOf at h
      rw [pick_no (by simp [hd])] at h
      exact ih h
    · cases hf : pick (fun s => !drn xs s) more (ldf cs) k with
      | none => exact ⟨k, pick_first (by simp [hd]) hf⟩
      | some m =>
        cases hm : more (ldf cs k) (ldf cs m)
        · exact ⟨m, pick_worse hf hm⟩
        · exact ⟨k, pick_better (by simp [hd]) hf hm⟩
theorem way_pos {cs : List Ch} {xs : List Int} {n f t : Nat} (h : wayOf cs xs n = some (f, t)) : 0 < ldf cs f ∧ f < n ∧ t < n := by
  unfold wayOf at h
  split at h
  · simp at h
  · rename_i t' ht
    split at h
    · rename_i f' hf
      simp at h
      obtain ⟨rfl, rfl⟩ := h
      have := pick_ok hf
      simp at this
      exact ⟨this.2, pick_lt hf, pick_lt ht⟩
    · split at h
      · simp at h
      · rename_i f' hf
        split at h
        · simp at h
        · rename_i hlt
          simp at h
          obtain ⟨rfl, rfl⟩ := h
          have := ldf_nonneg cs t'
          exact ⟨by omega, pick_lt hf, pick_lt ht⟩
theorem fit_ex {cs : List Ch} {f : Nat} (h : 0 < ldf cs f) : ∃ c ∈ cs, fit f c = true := by
  unfold ldf cntOf at h
  have : 0 < (cs.filter fun c => decide (c.sh = (f : Int)) && (false || !c.jb)).length := by omega
  obtain ⟨c, hc⟩ := List.exists_mem_of_length_pos this
  rw [List.mem_filter] at hc
  exact ⟨c, hc.1, by simpa [fit] using hc.2⟩
/-- what comes back -/
def propV (cs : List Ch) : Option (Nat × Nat) → Value
  | none => .tuple #[.agg #[.string ⟨#[]⟩, .int .i64 0, .int .i64 0], .bool false]
  | some (f, t) => .tuple #[.agg #[.string ((cs[cs.findIdx (fit f)]?.map Ch.lo).getD ⟨#[]⟩), .int .i64 f, .int .i64 t], .bool true]
end Go.Proofs.Ytimhokilicogdaa
