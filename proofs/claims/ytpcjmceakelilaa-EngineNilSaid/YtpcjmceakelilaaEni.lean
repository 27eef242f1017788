/- Mvcc: rows that stand apart; late writes. -/
import Derived.Test.YtpcjmceakelilaaEnh
namespace Go.Proofs.Ytpcjmceakelilaa
open Go.ChangeShapes Go.WideShapes Go.ChangeAt Go.RowKit Go.Deep Go.ChangeMaps Go.Shelf Go.Sort
set_option linter.unusedVariables false
set_option linter.unusedSimpArgs false
theorem own_same {B : Nat} {W W' : World} {T : TypeId} {z n : Nat} {v : Value} {xs : List Value} (h : W.ownsRow B T z v n xs) (hk : ∀ k, v.ownBlock = some k → W'.heap[k]? = W.heap[k]?) : W'.ownsRow B T z v n xs := by
  refine ⟨h.1, ?_⟩
  rcases h.2 with h1 | ⟨g, c, cur, rfl, h1, h2, h3⟩
  · exact .inl h1
  · exact .inr ⟨g, c, cur, rfl, h1, by rw [hk g rfl]; exact h2, h3⟩
/-- a row of what was read, that stands apart -/
def SRow (B : Nat) (W : World) (v : Value) (L : List (Bs × Bs)) : Prop := W.ownsRow B 51 2 v L.length (prS L)
theorem SRow.below {B : Nat} {W W' : World} {v : Value} {L : List (Bs × Bs)} (h : SRow B W v L) (hb : Below W.heap.size W W') : SRow B W' v L :=
  own_same h (fun k hk => hb.block k (World.ownsRow.lt h k hk).2)
theorem SRow.kept {B : Nat} {W W' : World} {v : Value} {L : List (Bs × Bs)} {T : Nat → Prop} (h : SRow B W v L) (hk : Kept T W W') (hT : ∀ k, T k → k < B) : SRow B W' v L :=
  own_same h (fun k hk2 => hk.block k (World.ownsRow.lt h k hk2).2 (fun ht => by have := hT k ht; have := (World.ownsRow.lt h k hk2).1; omega))
end Go.Proofs.Ytpcjmceakelilaa
