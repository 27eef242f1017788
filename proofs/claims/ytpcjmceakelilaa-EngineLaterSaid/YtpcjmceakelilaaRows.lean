/-
  No cell of these rows narrows 'for every input' (looked for: loops, veiled, ifaces, maps, wideKeys, modest, calm, conditions, laid).
  DERIVED. THE GIVEN ROWS OF THIS SEAT. 3 by the template 'for every input the law returns true; each argument reads behind the call as it read before'; 0 by the template 'total and deterministic' (their statements: YtpcjmceakelilaaTotals.lean).
  GIVEN WITH THE SEED: the statements are not yours to turn. If you find one false, say at which input.
  Laid BY PROGRAM, IN A SANDBOX (cutbox-rows.mjs): the forced cells as the released guide's own fill.sh prints them over the translation bdfac7d1b5ec3aee… (all of the seat's roots in one cut). By AI agents, Wed Nov 11 2026. No macro, syntax, notation, axiom, sorry.
-/
import Derived.Test.YtpcjmceakelilaaChecked
import GoSem.Claim
import GoSem.ClaimJoined
import GoSem.ClaimMapViews
import Derived.JoinedTies
import Derived.KernelRfl
namespace Go.Proofs.Ytpcjmceakelilaa
/- THE CELL 'sum', in the pinned program and in every row, IS THE sha256 OF THE DUMP (.gsa) THAT YtpcjmceakelilaaProg.lean LOADS. Nothing in Lean hashes anything: it is a label: what it is worth is what the hold of that sum in a sandbox is worth. -/
noncomputable def Try.pinned : Pinned := { name := "ytpcjmceakelilaa", sum := "bdfac7d1b5ec3aeee9ac24928db5b5eb83441e1977865458ca8e359a4d36b29e", checked := Try.checked }
namespace Rows
def none {H : Type} : Left H := { results := [], args := [] }

/-- 'docstorelaw20.EngineLater': WHATEVER THE INPUT: true; the input reads as it did. -/
def engineLaterSpec : ChangeSpec := { name := "engineLater", fn := fun _ => fun
  | [d1, d2, d3] => { results := [.lit (.bool true)], args := [d1, d2, d3] }
  | _ => none }
def engineLaterRow : OpenClaim := { program := "ytpcjmceakelilaa", sum := "bdfac7d1b5ec3aeee9ac24928db5b5eb83441e1977865458ca8e359a4d36b29e", func := "docstore/docstorelaw20.EngineLater", spec := "engineLater", inPlace := ["internal/abi.NoEscape"], unfollowed := true, recurses := true, plainKeys := false, apart := false }
def EngineLaterSaid : Prop := engineLaterRow.holds Try.pinned (OpenSpec.ofChange engineLaterSpec)

/-- ITS FALSE NEIGHBOUR: 'it returns false'. Refute it at one input. -/
def engineLaterWrong : ChangeSpec := { name := "engineLater", fn := fun _ => fun
  | [d1, d2, d3] => { results := [.lit (.bool false)], args := [d1, d2, d3] }
  | _ => none }
def EngineLaterWrongFalsely : Prop := engineLaterRow.holds Try.pinned (OpenSpec.ofChange engineLaterWrong)

/-- 'docstorelaw20.EngineCheckpoints': WHATEVER THE INPUT: true; the input reads as it did. -/
def engineCheckpointsSpec : ChangeSpec := { name := "engineCheckpoints", fn := fun _ => fun
  | [d1, d2, d3] => { results := [.lit (.bool true)], args := [d1, d2, d3] }
  | _ => none }
def engineCheckpointsRow : OpenClaim := { program := "ytpcjmceakelilaa", sum := "bdfac7d1b5ec3aeee9ac24928db5b5eb83441e1977865458ca8e359a4d36b29e", func := "docstore/docstorelaw20.EngineCheckpoints", spec := "engineCheckpoints", inPlace := ["internal/abi.NoEscape"], unfollowed := true, recurses := true, plainKeys := false, apart := false }
def EngineCheckpointsSaid : Prop := engineCheckpointsRow.holds Try.pinned (OpenSpec.ofChange engineCheckpointsSpec)

/-- ITS FALSE NEIGHBOUR: 'it returns false'. Refute it at one input. -/
def engineCheckpointsWrong : ChangeSpec := { name := "engineCheckpoints", fn := fun _ => fun
  | [d1, d2, d3] => { results := [.lit (.bool false)], args := [d1, d2, d3] }
  | _ => none }
def EngineCheckpointsWrongFalsely : Prop := engineCheckpointsRow.holds Try.pinned (OpenSpec.ofChange engineCheckpointsWrong)

/-- 'docstorelaw20.EngineNil': WHATEVER THE INPUT: true; the input reads as it did. -/
def engineNilSpec : ChangeSpec := { name := "engineNil", fn := fun _ => fun
  | [] => { results := [.lit (.bool true)], args := [] }
  | _ => none }
def engineNilRow : OpenClaim := { program := "ytpcjmceakelilaa", sum := "bdfac7d1b5ec3aeee9ac24928db5b5eb83441e1977865458ca8e359a4d36b29e", func := "docstore/docstorelaw20.EngineNil", spec := "engineNil", inPlace := ["internal/abi.NoEscape"], unfollowed := true, recurses := true, plainKeys := false, apart := false }
def EngineNilSaid : Prop := engineNilRow.holds Try.pinned (OpenSpec.ofChange engineNilSpec)

/-- ITS FALSE NEIGHBOUR: 'it returns false'. Refute it at one input. -/
def engineNilWrong : ChangeSpec := { name := "engineNil", fn := fun _ => fun
  | [] => { results := [.lit (.bool false)], args := [] }
  | _ => none }
def EngineNilWrongFalsely : Prop := engineNilRow.holds Try.pinned (OpenSpec.ofChange engineNilWrong)

/- THE SECOND FORM. 'bulk': how many values and letters a reading holds, each counted each time it is reached (what is shared counts as often as it is met; a slice's spare places count too). A statement '..UptoSaid' is the law's where the arguments, and the package variables that the reading takes, are together of bulk at most 1048576: NARROWER than '..Said'. Prove '..Said' where nothing that the law and all that it calls make is longer than what came in: it says more and counts as full. Else prove '..UptoSaid'. A law counts once. -/
mutual
def uptoBulk {H : Type} : DataW H → Nat
  | .lit (.string bytes) => bytes.length + 1
  | .lit _ => 1
  | .nil => 1
  | .ptr d => uptoBulk d + 1
  | .slice elems spare => uptoBulkAll elems + uptoBulkAll spare + 1
  | .agg parts => uptoBulkAll parts + 1
  | .iface _ d => uptoBulk d + 1
  | .map entries => uptoBulkEntries entries + 1
  | .held _ => 1
def uptoBulkAll {H : Type} : List (DataW H) → Nat
  | [] => 0
  | d :: r => uptoBulk d + uptoBulkAll r
def uptoBulkEntries {H : Type} : List (Lit × DataW H) → Nat
  | [] => 0
  | x :: r => uptoBulkEntry x + uptoBulkEntries r
def uptoBulkEntry {H : Type} : Lit × DataW H → Nat
  | (.string bytes, d) => bytes.length + uptoBulk d + 1
  | (_, d) => uptoBulk d + 1
 end
def uptoSmall : (H : Type) → List (DataW H) → Bool := fun _ ds => decide (uptoBulkAll ds ≤ 1048576)
def OpenSpec.upto (s : _root_.Go.ChangeSpec) : _root_.Go.OpenSpec := { _root_.Go.OpenSpec.ofChange s with cond := some uptoSmall }

/-- 'docstorelaw20.EngineLater', WHERE WHAT IT READS IS OF BULK AT MOST 1048576: true; the input reads as it did. -/
def engineLaterUptoRow : OpenClaim := { program := "ytpcjmceakelilaa", sum := "bdfac7d1b5ec3aeee9ac24928db5b5eb83441e1977865458ca8e359a4d36b29e", func := "docstore/docstorelaw20.EngineLater", spec := "engineLater", inPlace := ["internal/abi.NoEscape"], unfollowed := true, recurses := true, plainKeys := false, apart := false, narrowed := true }
def EngineLaterUptoSaid : Prop := engineLaterUptoRow.holds Try.pinned (OpenSpec.upto engineLaterSpec)

/-- 'docstorelaw20.EngineCheckpoints', WHERE WHAT IT READS IS OF BULK AT MOST 1048576: true; the input reads as it did. -/
def engineCheckpointsUptoRow : OpenClaim := { program := "ytpcjmceakelilaa", sum := "bdfac7d1b5ec3aeee9ac24928db5b5eb83441e1977865458ca8e359a4d36b29e", func := "docstore/docstorelaw20.EngineCheckpoints", spec := "engineCheckpoints", inPlace := ["internal/abi.NoEscape"], unfollowed := true, recurses := true, plainKeys := false, apart := false, narrowed := true }
def EngineCheckpointsUptoSaid : Prop := engineCheckpointsUptoRow.holds Try.pinned (OpenSpec.upto engineCheckpointsSpec)

/-- 'docstorelaw20.EngineNil', WHERE WHAT IT READS IS OF BULK AT MOST 1048576: true; the input reads as it did. -/
def engineNilUptoRow : OpenClaim := { program := "ytpcjmceakelilaa", sum := "bdfac7d1b5ec3aeee9ac24928db5b5eb83441e1977865458ca8e359a4d36b29e", func := "docstore/docstorelaw20.EngineNil", spec := "engineNil", inPlace := ["internal/abi.NoEscape"], unfollowed := true, recurses := true, plainKeys := false, apart := false, narrowed := true }
def EngineNilUptoSaid : Prop := engineNilUptoRow.holds Try.pinned (OpenSpec.upto engineNilSpec)

end Rows
end Go.Proofs.Ytpcjmceakelilaa
