/-
  NARROWER THAN 'FOR EVERY INPUT', by the rows' own cells (each row's printed sentence says how): SessionAcks: loops · SessionPoints: loops · SessionReads: loops · SessionQuorum: loops.
  DERIVED. THE GIVEN ROWS OF THIS SEAT. 7 by the template 'for every input the law returns true; each argument reads behind the call as it read before'; 0 by the template 'total and deterministic' (their statements: YtiimcffagchneaaTotals.lean).
  GIVEN WITH THE SEED: the statements are not yours to turn. If you find one false, say at which input.
  Laid BY PROGRAM, IN A SANDBOX (cutbox-rows.mjs): the forced cells as the released guide's own fill.sh prints them over the translation d63780dd4b7c6799… (all of the seat's roots in one cut). By AI agents, Wed Nov 11 2026. No macro, syntax, notation, axiom, sorry.
-/
import Derived.Test.YtiimcffagchneaaChecked
import GoSem.Claim
import GoSem.ClaimJoined
import GoSem.ClaimMapViews
import Derived.JoinedTies
import Derived.KernelRfl
namespace Go.Proofs.Ytiimcffagchneaa
/- THE CELL 'sum', in the pinned program and in every row, IS THE sha256 OF THE DUMP (.gsa) THAT YtiimcffagchneaaProg.lean LOADS. Nothing in Lean hashes anything: it is a label: what it is worth is what the hold of that sum in a sandbox is worth. -/
noncomputable def Try.pinned : Pinned := { name := "ytiimcffagchneaa", sum := "d63780dd4b7c6799703825b76530deecf2bc0ce239ef04d418bf12a24a329df2", checked := Try.checked }
namespace Rows
def none {H : Type} : Left H := { results := [], args := [] }

/-- 'docstorelaw45.SessionNew': WHATEVER THE INPUT: true; the input reads as it did. -/
def sessionNewSpec : ChangeSpec := { name := "sessionNew", fn := fun _ => fun
  | [d] => { results := [.lit (.bool true)], args := [d] }
  | _ => none }
def sessionNewRow : OpenClaim := { program := "ytiimcffagchneaa", sum := "d63780dd4b7c6799703825b76530deecf2bc0ce239ef04d418bf12a24a329df2", func := "docstore/docstorelaw45.SessionNew", spec := "sessionNew", apart := false }
def SessionNewSaid : Prop := sessionNewRow.holds Try.pinned (OpenSpec.ofChange sessionNewSpec)

/-- ITS FALSE NEIGHBOUR: 'it returns false'. Refute it at one input. -/
def sessionNewWrong : ChangeSpec := { name := "sessionNew", fn := fun _ => fun
  | [d] => { results := [.lit (.bool false)], args := [d] }
  | _ => none }
def SessionNewWrongFalsely : Prop := sessionNewRow.holds Try.pinned (OpenSpec.ofChange sessionNewWrong)

/-- 'docstorelaw45.SessionWrites': WHATEVER THE INPUT: true; the input reads as it did. -/
def sessionWritesSpec : ChangeSpec := { name := "sessionWrites", fn := fun _ => fun
  | [d1, d2, d3] => { results := [.lit (.bool true)], args := [d1, d2, d3] }
  | _ => none }
def sessionWritesRow : OpenClaim := { program := "ytiimcffagchneaa", sum := "d63780dd4b7c6799703825b76530deecf2bc0ce239ef04d418bf12a24a329df2", func := "docstore/docstorelaw45.SessionWrites", spec := "sessionWrites", apart := false }
def SessionWritesSaid : Prop := sessionWritesRow.holds Try.pinned (OpenSpec.ofChange sessionWritesSpec)

/-- ITS FALSE NEIGHBOUR: 'it returns false'. Refute it at one input. -/
def sessionWritesWrong : ChangeSpec := { name := "sessionWrites", fn := fun _ => fun
  | [d1, d2, d3] => { results := [.lit (.bool false)], args := [d1, d2, d3] }
  | _ => none }
def SessionWritesWrongFalsely : Prop := sessionWritesRow.holds Try.pinned (OpenSpec.ofChange sessionWritesWrong)

/-- 'docstorelaw45.SessionAcks': WHATEVER THE INPUT: true; the input reads as it did. -/
def sessionAcksSpec : ChangeSpec := { name := "sessionAcks", fn := fun _ => fun
  | [d1, d2, d3] => { results := [.lit (.bool true)], args := [d1, d2, d3] }
  | _ => none }
def sessionAcksRow : OpenClaim := { program := "ytiimcffagchneaa", sum := "d63780dd4b7c6799703825b76530deecf2bc0ce239ef04d418bf12a24a329df2", func := "docstore/docstorelaw45.SessionAcks", spec := "sessionAcks", loops := true, apart := false }
def SessionAcksSaid : Prop := sessionAcksRow.holds Try.pinned (OpenSpec.ofChange sessionAcksSpec)

/-- ITS FALSE NEIGHBOUR: 'it returns false'. Refute it at one input. -/
def sessionAcksWrong : ChangeSpec := { name := "sessionAcks", fn := fun _ => fun
  | [d1, d2, d3] => { results := [.lit (.bool false)], args := [d1, d2, d3] }
  | _ => none }
def SessionAcksWrongFalsely : Prop := sessionAcksRow.holds Try.pinned (OpenSpec.ofChange sessionAcksWrong)

/-- 'docstorelaw45.SessionPoints': WHATEVER THE INPUT: true; the input reads as it did. -/
def sessionPointsSpec : ChangeSpec := { name := "sessionPoints", fn := fun _ => fun
  | [d1, d2] => { results := [.lit (.bool true)], args := [d1, d2] }
  | _ => none }
def sessionPointsRow : OpenClaim := { program := "ytiimcffagchneaa", sum := "d63780dd4b7c6799703825b76530deecf2bc0ce239ef04d418bf12a24a329df2", func := "docstore/docstorelaw45.SessionPoints", spec := "sessionPoints", loops := true, apart := false }
def SessionPointsSaid : Prop := sessionPointsRow.holds Try.pinned (OpenSpec.ofChange sessionPointsSpec)

/-- ITS FALSE NEIGHBOUR: 'it returns false'. Refute it at one input. -/
def sessionPointsWrong : ChangeSpec := { name := "sessionPoints", fn := fun _ => fun
  | [d1, d2] => { results := [.lit (.bool false)], args := [d1, d2] }
  | _ => none }
def SessionPointsWrongFalsely : Prop := sessionPointsRow.holds Try.pinned (OpenSpec.ofChange sessionPointsWrong)

/-- 'docstorelaw45.SessionGrows': WHATEVER THE INPUT: true; the input reads as it did. -/
def sessionGrowsSpec : ChangeSpec := { name := "sessionGrows", fn := fun _ => fun
  | [d] => { results := [.lit (.bool true)], args := [d] }
  | _ => none }
def sessionGrowsRow : OpenClaim := { program := "ytiimcffagchneaa", sum := "d63780dd4b7c6799703825b76530deecf2bc0ce239ef04d418bf12a24a329df2", func := "docstore/docstorelaw45.SessionGrows", spec := "sessionGrows", apart := false }
def SessionGrowsSaid : Prop := sessionGrowsRow.holds Try.pinned (OpenSpec.ofChange sessionGrowsSpec)

/-- ITS FALSE NEIGHBOUR: 'it returns false'. Refute it at one input. -/
def sessionGrowsWrong : ChangeSpec := { name := "sessionGrows", fn := fun _ => fun
  | [d] => { results := [.lit (.bool false)], args := [d] }
  | _ => none }
def SessionGrowsWrongFalsely : Prop := sessionGrowsRow.holds Try.pinned (OpenSpec.ofChange sessionGrowsWrong)

/-- 'docstorelaw45.SessionReads': WHATEVER THE INPUT: true; the input reads as it did. -/
def sessionReadsSpec : ChangeSpec := { name := "sessionReads", fn := fun _ => fun
  | [d1, d2, d3] => { results := [.lit (.bool true)], args := [d1, d2, d3] }
  | _ => none }
def sessionReadsRow : OpenClaim := { program := "ytiimcffagchneaa", sum := "d63780dd4b7c6799703825b76530deecf2bc0ce239ef04d418bf12a24a329df2", func := "docstore/docstorelaw45.SessionReads", spec := "sessionReads", loops := true, apart := false }
def SessionReadsSaid : Prop := sessionReadsRow.holds Try.pinned (OpenSpec.ofChange sessionReadsSpec)

/-- ITS FALSE NEIGHBOUR: 'it returns false'. Refute it at one input. -/
def sessionReadsWrong : ChangeSpec := { name := "sessionReads", fn := fun _ => fun
  | [d1, d2, d3] => { results := [.lit (.bool false)], args := [d1, d2, d3] }
  | _ => none }
def SessionReadsWrongFalsely : Prop := sessionReadsRow.holds Try.pinned (OpenSpec.ofChange sessionReadsWrong)

/-- 'docstorelaw45.SessionQuorum': WHATEVER THE INPUT: true; the input reads as it did. -/
def sessionQuorumSpec : ChangeSpec := { name := "sessionQuorum", fn := fun _ => fun
  | [d1, d2, d3] => { results := [.lit (.bool true)], args := [d1, d2, d3] }
  | _ => none }
def sessionQuorumRow : OpenClaim := { program := "ytiimcffagchneaa", sum := "d63780dd4b7c6799703825b76530deecf2bc0ce239ef04d418bf12a24a329df2", func := "docstore/docstorelaw45.SessionQuorum", spec := "sessionQuorum", loops := true, apart := false }
def SessionQuorumSaid : Prop := sessionQuorumRow.holds Try.pinned (OpenSpec.ofChange sessionQuorumSpec)

/-- ITS FALSE NEIGHBOUR: 'it returns false'. Refute it at one input. -/
def sessionQuorumWrong : ChangeSpec := { name := "sessionQuorum", fn := fun _ => fun
  | [d1, d2, d3] => { results := [.lit (.bool false)], args := [d1, d2, d3] }
  | _ => none }
def SessionQuorumWrongFalsely : Prop := sessionQuorumRow.holds Try.pinned (OpenSpec.ofChange sessionQuorumWrong)

/- THE SECOND FORM. 'bulk': how many values and letters a reading holds, each counted each time it is reached (what is shared counts as often as it is met; a slice's spare places count too). A statement '..UptoSaid' is the law's where the arguments, and the package variables that the reading takes, are together of bulk at most 1048576: NARROWER than '..Said'. Prove '..Said' where nothing that the law and all that it calls make is longer than what came in: it says more and counts as full. Else prove '..UptoSaid'. A law counts once. -/
mutual
def uptoBulk {H : Type} : DataW H → Nat
  | .lit (.string bytes) => bytes.length + 1
  | .lit _ => 1
  | .nil => 1
  | .ptr d => uptoBulk d + 1
  | .slice elems spare => uptoBulkAll elems + uptoBulkAll spare + 1
  | .agg parts => uptoBulkAll parts + 1
  | .iface _ d => uptoBulk d + 1
  | .map entries => uptoBulkEntries entries + 1
  | .held _ => 1
def uptoBulkAll {H : Type} : List (DataW H) → Nat
  | [] => 0
  | d :: r => uptoBulk d + uptoBulkAll r
def uptoBulkEntries {H : Type} : List (Lit × DataW H) → Nat
  | [] => 0
  | x :: r => uptoBulkEntry x + uptoBulkEntries r
def uptoBulkEntry {H : Type} : Lit × DataW H → Nat
  | (.string bytes, d) => bytes.length + uptoBulk d + 1
  | (_, d) => uptoBulk d + 1
 end
def uptoSmall : (H : Type) → List (DataW H) → Bool := fun _ ds => decide (uptoBulkAll ds ≤ 1048576)
def OpenSpec.upto (s : _root_.Go.ChangeSpec) : _root_.Go.OpenSpec := { _root_.Go.OpenSpec.ofChange s with cond := some uptoSmall }

/-- 'docstorelaw45.SessionNew', WHERE WHAT IT READS IS OF BULK AT MOST 1048576: true; the input reads as it did. -/
def sessionNewUptoRow : OpenClaim := { program := "ytiimcffagchneaa", sum := "d63780dd4b7c6799703825b76530deecf2bc0ce239ef04d418bf12a24a329df2", func := "docstore/docstorelaw45.SessionNew", spec := "sessionNew", apart := false, narrowed := true }
def SessionNewUptoSaid : Prop := sessionNewUptoRow.holds Try.pinned (OpenSpec.upto sessionNewSpec)

/-- 'docstorelaw45.SessionWrites', WHERE WHAT IT READS IS OF BULK AT MOST 1048576: true; the input reads as it did. -/
def sessionWritesUptoRow : OpenClaim := { program := "ytiimcffagchneaa", sum := "d63780dd4b7c6799703825b76530deecf2bc0ce239ef04d418bf12a24a329df2", func := "docstore/docstorelaw45.SessionWrites", spec := "sessionWrites", apart := false, narrowed := true }
def SessionWritesUptoSaid : Prop := sessionWritesUptoRow.holds Try.pinned (OpenSpec.upto sessionWritesSpec)

/-- 'docstorelaw45.SessionAcks', WHERE WHAT IT READS IS OF BULK AT MOST 1048576: true; the input reads as it did. -/
def sessionAcksUptoRow : OpenClaim := { program := "ytiimcffagchneaa", sum := "d63780dd4b7c6799703825b76530deecf2bc0ce239ef04d418bf12a24a329df2", func := "docstore/docstorelaw45.SessionAcks", spec := "sessionAcks", loops := true, apart := false, narrowed := true }
def SessionAcksUptoSaid : Prop := sessionAcksUptoRow.holds Try.pinned (OpenSpec.upto sessionAcksSpec)

/-- 'docstorelaw45.SessionPoints', WHERE WHAT IT READS IS OF BULK AT MOST 1048576: true; the input reads as it did. -/
def sessionPointsUptoRow : OpenClaim := { program := "ytiimcffagchneaa", sum := "d63780dd4b7c6799703825b76530deecf2bc0ce239ef04d418bf12a24a329df2", func := "docstore/docstorelaw45.SessionPoints", spec := "sessionPoints", loops := true, apart := false, narrowed := true }
def SessionPointsUptoSaid : Prop := sessionPointsUptoRow.holds Try.pinned (OpenSpec.upto sessionPointsSpec)

/-- 'docstorelaw45.SessionGrows', WHERE WHAT IT READS IS OF BULK AT MOST 1048576: true; the input reads as it did. -/
def sessionGrowsUptoRow : OpenClaim := { program := "ytiimcffagchneaa", sum := "d63780dd4b7c6799703825b76530deecf2bc0ce239ef04d418bf12a24a329df2", func := "docstore/docstorelaw45.SessionGrows", spec := "sessionGrows", apart := false, narrowed := true }
def SessionGrowsUptoSaid : Prop := sessionGrowsUptoRow.holds Try.pinned (OpenSpec.upto sessionGrowsSpec)

/-- 'docstorelaw45.SessionReads', WHERE WHAT IT READS IS OF BULK AT MOST 1048576: true; the input reads as it did. -/
def sessionReadsUptoRow : OpenClaim := { program := "ytiimcffagchneaa", sum := "d63780dd4b7c6799703825b76530deecf2bc0ce239ef04d418bf12a24a329df2", func := "docstore/docstorelaw45.SessionReads", spec := "sessionReads", loops := true, apart := false, narrowed := true }
def SessionReadsUptoSaid : Prop := sessionReadsUptoRow.holds Try.pinned (OpenSpec.upto sessionReadsSpec)

/-- 'docstorelaw45.SessionQuorum', WHERE WHAT IT READS IS OF BULK AT MOST 1048576: true; the input reads as it did. -/
def sessionQuorumUptoRow : OpenClaim := { program := "ytiimcffagchneaa", sum := "d63780dd4b7c6799703825b76530deecf2bc0ce239ef04d418bf12a24a329df2", func := "docstore/docstorelaw45.SessionQuorum", spec := "sessionQuorum", loops := true, apart := false, narrowed := true }
def SessionQuorumUptoSaid : Prop := sessionQuorumUptoRow.holds Try.pinned (OpenSpec.upto sessionQuorumSpec)

end Rows
end Go.Proofs.Ytiimcffagchneaa
