/-
  No cell of these rows narrows 'for every input' (looked for: loops, veiled, ifaces, maps, wideKeys, modest, calm, conditions, laid).
  DERIVED. THE GIVEN ROWS OF THIS SEAT. 4 by the template 'for every input the law returns true; each argument reads behind the call as it read before'; 0 by the template 'total and deterministic' (their statements: YtimhokilicogdaaTotals.lean).
  GIVEN WITH THE SEED: the statements are not yours to turn. If you find one false, say at which input.
  Laid BY PROGRAM, IN A SANDBOX (cutbox-rows.mjs): the forced cells as the released guide's own fill.sh prints them over the translation fb6b9be671eac5c7… (all of the seat's roots in one cut). By AI agents, Wed Nov 11 2026. No macro, syntax, notation, axiom, sorry.
-/
import Derived.Test.YtimhokilicogdaaChecked
import GoSem.Claim
import GoSem.ClaimJoined
import GoSem.ClaimMapViews
import Derived.JoinedTies
import Derived.KernelRfl
namespace Go.Proofs.Ytimhokilicogdaa
/- THE CELL 'sum', in the pinned program and in every row, IS THE sha256 OF THE DUMP (.gsa) THAT YtimhokilicogdaaProg.lean LOADS. Nothing in Lean hashes anything: it is a label: what it is worth is what the hold of that sum in a sandbox is worth. -/
noncomputable def Try.pinned : Pinned := { name := "ytimhokilicogdaa", sum := "fb6b9be671eac5c79ec9e30da92525e50ccd1be922f5369a662c1f073c64d22e", checked := Try.checked }
namespace Rows
def none {H : Type} : Left H := { results := [], args := [] }

/-- 'docstorelaw52.BalanceCounts': WHATEVER THE INPUT: true; the input reads as it did. -/
def balanceCountsSpec : ChangeSpec := { name := "balanceCounts", fn := fun _ => fun
  | [d1, d2] => { results := [.lit (.bool true)], args := [d1, d2] }
  | _ => none }
def balanceCountsRow : OpenClaim := { program := "ytimhokilicogdaa", sum := "fb6b9be671eac5c79ec9e30da92525e50ccd1be922f5369a662c1f073c64d22e", func := "docstore/docstorelaw52.BalanceCounts", spec := "balanceCounts", unfollowed := true, recurses := true, apart := false }
def BalanceCountsSaid : Prop := balanceCountsRow.holds Try.pinned (OpenSpec.ofChange balanceCountsSpec)

/-- ITS FALSE NEIGHBOUR: 'it returns false'. Refute it at one input. -/
def balanceCountsWrong : ChangeSpec := { name := "balanceCounts", fn := fun _ => fun
  | [d1, d2] => { results := [.lit (.bool false)], args := [d1, d2] }
  | _ => none }
def BalanceCountsWrongFalsely : Prop := balanceCountsRow.holds Try.pinned (OpenSpec.ofChange balanceCountsWrong)

/-- 'docstorelaw52.BalanceNext': WHATEVER THE INPUT: true; the input reads as it did. -/
def balanceNextSpec : ChangeSpec := { name := "balanceNext", fn := fun _ => fun
  | [d1, d2, d3] => { results := [.lit (.bool true)], args := [d1, d2, d3] }
  | _ => none }
def balanceNextRow : OpenClaim := { program := "ytimhokilicogdaa", sum := "fb6b9be671eac5c79ec9e30da92525e50ccd1be922f5369a662c1f073c64d22e", func := "docstore/docstorelaw52.BalanceNext", spec := "balanceNext", unfollowed := true, recurses := true, apart := false }
def BalanceNextSaid : Prop := balanceNextRow.holds Try.pinned (OpenSpec.ofChange balanceNextSpec)

/-- ITS FALSE NEIGHBOUR: 'it returns false'. Refute it at one input. -/
def balanceNextWrong : ChangeSpec := { name := "balanceNext", fn := fun _ => fun
  | [d1, d2, d3] => { results := [.lit (.bool false)], args := [d1, d2, d3] }
  | _ => none }
def BalanceNextWrongFalsely : Prop := balanceNextRow.holds Try.pinned (OpenSpec.ofChange balanceNextWrong)

/-- 'docstorelaw52.BalanceMoves': WHATEVER THE INPUT: true; the input reads as it did. -/
def balanceMovesSpec : ChangeSpec := { name := "balanceMoves", fn := fun _ => fun
  | [d1, d2, d3] => { results := [.lit (.bool true)], args := [d1, d2, d3] }
  | _ => none }
def balanceMovesRow : OpenClaim := { program := "ytimhokilicogdaa", sum := "fb6b9be671eac5c79ec9e30da92525e50ccd1be922f5369a662c1f073c64d22e", func := "docstore/docstorelaw52.BalanceMoves", spec := "balanceMoves", unfollowed := true, recurses := true, apart := false }
def BalanceMovesSaid : Prop := balanceMovesRow.holds Try.pinned (OpenSpec.ofChange balanceMovesSpec)

/-- ITS FALSE NEIGHBOUR: 'it returns false'. Refute it at one input. -/
def balanceMovesWrong : ChangeSpec := { name := "balanceMoves", fn := fun _ => fun
  | [d1, d2, d3] => { results := [.lit (.bool false)], args := [d1, d2, d3] }
  | _ => none }
def BalanceMovesWrongFalsely : Prop := balanceMovesRow.holds Try.pinned (OpenSpec.ofChange balanceMovesWrong)

/-- 'docstorelaw52.BalanceEnds': WHATEVER THE INPUT: true; the input reads as it did. -/
def balanceEndsSpec : ChangeSpec := { name := "balanceEnds", fn := fun _ => fun
  | [d1, d2, d3] => { results := [.lit (.bool true)], args := [d1, d2, d3] }
  | _ => none }
def balanceEndsRow : OpenClaim := { program := "ytimhokilicogdaa", sum := "fb6b9be671eac5c79ec9e30da92525e50ccd1be922f5369a662c1f073c64d22e", func := "docstore/docstorelaw52.BalanceEnds", spec := "balanceEnds", unfollowed := true, recurses := true, apart := false }
def BalanceEndsSaid : Prop := balanceEndsRow.holds Try.pinned (OpenSpec.ofChange balanceEndsSpec)

/-- ITS FALSE NEIGHBOUR: 'it returns false'. Refute it at one input. -/
def balanceEndsWrong : ChangeSpec := { name := "balanceEnds", fn := fun _ => fun
  | [d1, d2, d3] => { results := [.lit (.bool false)], args := [d1, d2, d3] }
  | _ => none }
def BalanceEndsWrongFalsely : Prop := balanceEndsRow.holds Try.pinned (OpenSpec.ofChange balanceEndsWrong)

/- THE SECOND FORM. 'bulk': how many values and letters a reading holds, each counted each time it is reached (what is shared counts as often as it is met; a slice's spare places count too). A statement '..UptoSaid' is the law's where the arguments, and the package variables that the reading takes, are together of bulk at most 1048576: NARROWER than '..Said'. Prove '..Said' where nothing that the law and all that it calls make is longer than what came in: it says more and counts as full. Else prove '..UptoSaid'. A law counts once. -/
mutual
def uptoBulk {H : Type} : DataW H → Nat
  | .lit (.string bytes) => bytes.length + 1
  | .lit _ => 1
  | .nil => 1
  | .ptr d => uptoBulk d + 1
  | .slice elems spare => uptoBulkAll elems + uptoBulkAll spare + 1
  | .agg parts => uptoBulkAll parts + 1
  | .iface _ d => uptoBulk d + 1
  | .map entries => uptoBulkEntries entries + 1
  | .held _ => 1
def uptoBulkAll {H : Type} : List (DataW H) → Nat
  | [] => 0
  | d :: r => uptoBulk d + uptoBulkAll r
def uptoBulkEntries {H : Type} : List (Lit × DataW H) → Nat
  | [] => 0
  | x :: r => uptoBulkEntry x + uptoBulkEntries r
def uptoBulkEntry {H : Type} : Lit × DataW H → Nat
  | (.string bytes, d) => bytes.length + uptoBulk d + 1
  | (_, d) => uptoBulk d + 1
 end
def uptoSmall : (H : Type) → List (DataW H) → Bool := fun _ ds => decide (uptoBulkAll ds ≤ 1048576)
def OpenSpec.upto (s : _root_.Go.ChangeSpec) : _root_.Go.OpenSpec := { _root_.Go.OpenSpec.ofChange s with cond := some uptoSmall }

/-- 'docstorelaw52.BalanceCounts', WHERE WHAT IT READS IS OF BULK AT MOST 1048576: true; the input reads as it did. -/
def balanceCountsUptoRow : OpenClaim := { program := "ytimhokilicogdaa", sum := "fb6b9be671eac5c79ec9e30da92525e50ccd1be922f5369a662c1f073c64d22e", func := "docstore/docstorelaw52.BalanceCounts", spec := "balanceCounts", unfollowed := true, recurses := true, apart := false, narrowed := true }
def BalanceCountsUptoSaid : Prop := balanceCountsUptoRow.holds Try.pinned (OpenSpec.upto balanceCountsSpec)

/-- 'docstorelaw52.BalanceNext', WHERE WHAT IT READS IS OF BULK AT MOST 1048576: true; the input reads as it did. -/
def balanceNextUptoRow : OpenClaim := { program := "ytimhokilicogdaa", sum := "fb6b9be671eac5c79ec9e30da92525e50ccd1be922f5369a662c1f073c64d22e", func := "docstore/docstorelaw52.BalanceNext", spec := "balanceNext", unfollowed := true, recurses := true, apart := false, narrowed := true }
def BalanceNextUptoSaid : Prop := balanceNextUptoRow.holds Try.pinned (OpenSpec.upto balanceNextSpec)

/-- 'docstorelaw52.BalanceMoves', WHERE WHAT IT READS IS OF BULK AT MOST 1048576: true; the input reads as it did. -/
def balanceMovesUptoRow : OpenClaim := { program := "ytimhokilicogdaa", sum := "fb6b9be671eac5c79ec9e30da92525e50ccd1be922f5369a662c1f073c64d22e", func := "docstore/docstorelaw52.BalanceMoves", spec := "balanceMoves", unfollowed := true, recurses := true, apart := false, narrowed := true }
def BalanceMovesUptoSaid : Prop := balanceMovesUptoRow.holds Try.pinned (OpenSpec.upto balanceMovesSpec)

/-- 'docstorelaw52.BalanceEnds', WHERE WHAT IT READS IS OF BULK AT MOST 1048576: true; the input reads as it did. -/
def balanceEndsUptoRow : OpenClaim := { program := "ytimhokilicogdaa", sum := "fb6b9be671eac5c79ec9e30da92525e50ccd1be922f5369a662c1f073c64d22e", func := "docstore/docstorelaw52.BalanceEnds", spec := "balanceEnds", unfollowed := true, recurses := true, apart := false, narrowed := true }
def BalanceEndsUptoSaid : Prop := balanceEndsUptoRow.holds Try.pinned (OpenSpec.upto balanceEndsSpec)

end Rows
end Go.Proofs.Ytimhokilicogdaa
