/-
  No cell of these rows narrows 'for every input' (looked for: loops, veiled, ifaces, maps, wideKeys, modest, calm, conditions, laid).
  DERIVED. THE GIVEN ROWS OF THIS SEAT. 6 by the template 'for every input the law returns true; each argument reads behind the call as it read before'; 0 by the template 'total and deterministic' (their statements: YtaecppkkbdbdbaaTotals.lean).
  GIVEN WITH THE SEED: the statements are not yours to turn. If you find one false, say at which input.
  Laid BY PROGRAM, IN A SANDBOX (cutbox-rows.mjs): the forced cells as the released guide's own fill.sh prints them over the translation 260456162a211a70… (all of the seat's roots in one cut). By AI agents, Wed Nov 11 2026. No macro, syntax, notation, axiom, sorry.
-/
import Derived.Test.YtaecppkkbdbdbaaChecked
import GoSem.Claim
import GoSem.ClaimJoined
import GoSem.ClaimMapViews
import Derived.JoinedTies
import Derived.KernelRfl
namespace Go.Proofs.Ytaecppkkbdbdbaa
/- THE CELL 'sum', in the pinned program and in every row, IS THE sha256 OF THE DUMP (.gsa) THAT YtaecppkkbdbdbaaProg.lean LOADS. Nothing in Lean hashes anything: it is a label: what it is worth is what the hold of that sum in a sandbox is worth. -/
noncomputable def Try.pinned : Pinned := { name := "ytaecppkkbdbdbaa", sum := "260456162a211a70c71f5af6037e65301cc64f7552e89e6b061cb26c8c39f406", checked := Try.checked }
namespace Rows
def none {H : Type} : Left H := { results := [], args := [] }

/-- 'docstorelaw18.MvccScript': WHATEVER THE INPUT: true; the input reads as it did. -/
def mvccScriptSpec : ChangeSpec := { name := "mvccScript", fn := fun _ => fun
  | [d] => { results := [.lit (.bool true)], args := [d] }
  | _ => none }
def mvccScriptRow : OpenClaim := { program := "ytaecppkkbdbdbaa", sum := "260456162a211a70c71f5af6037e65301cc64f7552e89e6b061cb26c8c39f406", func := "docstore/docstorelaw18.MvccScript", spec := "mvccScript", unfollowed := true, recurses := true, apart := false }
def MvccScriptSaid : Prop := mvccScriptRow.holds Try.pinned (OpenSpec.ofChange mvccScriptSpec)

/-- ITS FALSE NEIGHBOUR: 'it returns false'. Refute it at one input. -/
def mvccScriptWrong : ChangeSpec := { name := "mvccScript", fn := fun _ => fun
  | [d] => { results := [.lit (.bool false)], args := [d] }
  | _ => none }
def MvccScriptWrongFalsely : Prop := mvccScriptRow.holds Try.pinned (OpenSpec.ofChange mvccScriptWrong)

/-- 'docstorelaw18.MvccPrune': WHATEVER THE INPUT: true; the input reads as it did. -/
def mvccPruneSpec : ChangeSpec := { name := "mvccPrune", fn := fun _ => fun
  | [d1, d2, d3] => { results := [.lit (.bool true)], args := [d1, d2, d3] }
  | _ => none }
def mvccPruneRow : OpenClaim := { program := "ytaecppkkbdbdbaa", sum := "260456162a211a70c71f5af6037e65301cc64f7552e89e6b061cb26c8c39f406", func := "docstore/docstorelaw18.MvccPrune", spec := "mvccPrune", unfollowed := true, recurses := true, apart := false }
def MvccPruneSaid : Prop := mvccPruneRow.holds Try.pinned (OpenSpec.ofChange mvccPruneSpec)

/-- ITS FALSE NEIGHBOUR: 'it returns false'. Refute it at one input. -/
def mvccPruneWrong : ChangeSpec := { name := "mvccPrune", fn := fun _ => fun
  | [d1, d2, d3] => { results := [.lit (.bool false)], args := [d1, d2, d3] }
  | _ => none }
def MvccPruneWrongFalsely : Prop := mvccPruneRow.holds Try.pinned (OpenSpec.ofChange mvccPruneWrong)

/-- 'docstorelaw18.MvccClone': WHATEVER THE INPUT: true; the input reads as it did. -/
def mvccCloneSpec : ChangeSpec := { name := "mvccClone", fn := fun _ => fun
  | [d1, d2, d3] => { results := [.lit (.bool true)], args := [d1, d2, d3] }
  | _ => none }
def mvccCloneRow : OpenClaim := { program := "ytaecppkkbdbdbaa", sum := "260456162a211a70c71f5af6037e65301cc64f7552e89e6b061cb26c8c39f406", func := "docstore/docstorelaw18.MvccClone", spec := "mvccClone", unfollowed := true, recurses := true, apart := false }
def MvccCloneSaid : Prop := mvccCloneRow.holds Try.pinned (OpenSpec.ofChange mvccCloneSpec)

/-- ITS FALSE NEIGHBOUR: 'it returns false'. Refute it at one input. -/
def mvccCloneWrong : ChangeSpec := { name := "mvccClone", fn := fun _ => fun
  | [d1, d2, d3] => { results := [.lit (.bool false)], args := [d1, d2, d3] }
  | _ => none }
def MvccCloneWrongFalsely : Prop := mvccCloneRow.holds Try.pinned (OpenSpec.ofChange mvccCloneWrong)

/-- 'docstorelaw18.MvccStop': WHATEVER THE INPUT: true; the input reads as it did. -/
def mvccStopSpec : ChangeSpec := { name := "mvccStop", fn := fun _ => fun
  | [d1, d2, d3, d4] => { results := [.lit (.bool true)], args := [d1, d2, d3, d4] }
  | _ => none }
def mvccStopRow : OpenClaim := { program := "ytaecppkkbdbdbaa", sum := "260456162a211a70c71f5af6037e65301cc64f7552e89e6b061cb26c8c39f406", func := "docstore/docstorelaw18.MvccStop", spec := "mvccStop", unfollowed := true, recurses := true, apart := false }
def MvccStopSaid : Prop := mvccStopRow.holds Try.pinned (OpenSpec.ofChange mvccStopSpec)

/-- ITS FALSE NEIGHBOUR: 'it returns false'. Refute it at one input. -/
def mvccStopWrong : ChangeSpec := { name := "mvccStop", fn := fun _ => fun
  | [d1, d2, d3, d4] => { results := [.lit (.bool false)], args := [d1, d2, d3, d4] }
  | _ => none }
def MvccStopWrongFalsely : Prop := mvccStopRow.holds Try.pinned (OpenSpec.ofChange mvccStopWrong)

/-- 'docstorelaw18.MvccRollback': WHATEVER THE INPUT: true; the input reads as it did. -/
def mvccRollbackSpec : ChangeSpec := { name := "mvccRollback", fn := fun _ => fun
  | [d1, d2] => { results := [.lit (.bool true)], args := [d1, d2] }
  | _ => none }
def mvccRollbackRow : OpenClaim := { program := "ytaecppkkbdbdbaa", sum := "260456162a211a70c71f5af6037e65301cc64f7552e89e6b061cb26c8c39f406", func := "docstore/docstorelaw18.MvccRollback", spec := "mvccRollback", unfollowed := true, recurses := true, apart := false }
def MvccRollbackSaid : Prop := mvccRollbackRow.holds Try.pinned (OpenSpec.ofChange mvccRollbackSpec)

/-- ITS FALSE NEIGHBOUR: 'it returns false'. Refute it at one input. -/
def mvccRollbackWrong : ChangeSpec := { name := "mvccRollback", fn := fun _ => fun
  | [d1, d2] => { results := [.lit (.bool false)], args := [d1, d2] }
  | _ => none }
def MvccRollbackWrongFalsely : Prop := mvccRollbackRow.holds Try.pinned (OpenSpec.ofChange mvccRollbackWrong)

/-- 'docstorelaw18.MvccSnapshot': WHATEVER THE INPUT: true; the input reads as it did. -/
def mvccSnapshotSpec : ChangeSpec := { name := "mvccSnapshot", fn := fun _ => fun
  | [d1, d2, d3, d4, d5] => { results := [.lit (.bool true)], args := [d1, d2, d3, d4, d5] }
  | _ => none }
def mvccSnapshotRow : OpenClaim := { program := "ytaecppkkbdbdbaa", sum := "260456162a211a70c71f5af6037e65301cc64f7552e89e6b061cb26c8c39f406", func := "docstore/docstorelaw18.MvccSnapshot", spec := "mvccSnapshot", unfollowed := true, recurses := true, apart := false }
def MvccSnapshotSaid : Prop := mvccSnapshotRow.holds Try.pinned (OpenSpec.ofChange mvccSnapshotSpec)

/-- ITS FALSE NEIGHBOUR: 'it returns false'. Refute it at one input. -/
def mvccSnapshotWrong : ChangeSpec := { name := "mvccSnapshot", fn := fun _ => fun
  | [d1, d2, d3, d4, d5] => { results := [.lit (.bool false)], args := [d1, d2, d3, d4, d5] }
  | _ => none }
def MvccSnapshotWrongFalsely : Prop := mvccSnapshotRow.holds Try.pinned (OpenSpec.ofChange mvccSnapshotWrong)

/- THE SECOND FORM. 'bulk': how many values and letters a reading holds, each counted each time it is reached (what is shared counts as often as it is met; a slice's spare places count too). A statement '..UptoSaid' is the law's where the arguments, and the package variables that the reading takes, are together of bulk at most 1048576: NARROWER than '..Said'. Prove '..Said' where nothing that the law and all that it calls make is longer than what came in: it says more and counts as full. Else prove '..UptoSaid'. A law counts once. -/
mutual
def uptoBulk {H : Type} : DataW H → Nat
  | .lit (.string bytes) => bytes.length + 1
  | .lit _ => 1
  | .nil => 1
  | .ptr d => uptoBulk d + 1
  | .slice elems spare => uptoBulkAll elems + uptoBulkAll spare + 1
  | .agg parts => uptoBulkAll parts + 1
  | .iface _ d => uptoBulk d + 1
  | .map entries => uptoBulkEntries entries + 1
  | .held _ => 1
def uptoBulkAll {H : Type} : List (DataW H) → Nat
  | [] => 0
  | d :: r => uptoBulk d + uptoBulkAll r
def uptoBulkEntries {H : Type} : List (Lit × DataW H) → Nat
  | [] => 0
  | x :: r => uptoBulkEntry x + uptoBulkEntries r
def uptoBulkEntry {H : Type} : Lit × DataW H → Nat
  | (.string bytes, d) => bytes.length + uptoBulk d + 1
  | (_, d) => uptoBulk d + 1
 end
def uptoSmall : (H : Type) → List (DataW H) → Bool := fun _ ds => decide (uptoBulkAll ds ≤ 1048576)
def OpenSpec.upto (s : _root_.Go.ChangeSpec) : _root_.Go.OpenSpec := { _root_.Go.OpenSpec.ofChange s with cond := some uptoSmall }

/-- 'docstorelaw18.MvccScript', WHERE WHAT IT READS IS OF BULK AT MOST 1048576: true; the input reads as it did. -/
def mvccScriptUptoRow : OpenClaim := { program := "ytaecppkkbdbdbaa", sum := "260456162a211a70c71f5af6037e65301cc64f7552e89e6b061cb26c8c39f406", func := "docstore/docstorelaw18.MvccScript", spec := "mvccScript", unfollowed := true, recurses := true, apart := false, narrowed := true }
def MvccScriptUptoSaid : Prop := mvccScriptUptoRow.holds Try.pinned (OpenSpec.upto mvccScriptSpec)

/-- 'docstorelaw18.MvccPrune', WHERE WHAT IT READS IS OF BULK AT MOST 1048576: true; the input reads as it did. -/
def mvccPruneUptoRow : OpenClaim := { program := "ytaecppkkbdbdbaa", sum := "260456162a211a70c71f5af6037e65301cc64f7552e89e6b061cb26c8c39f406", func := "docstore/docstorelaw18.MvccPrune", spec := "mvccPrune", unfollowed := true, recurses := true, apart := false, narrowed := true }
def MvccPruneUptoSaid : Prop := mvccPruneUptoRow.holds Try.pinned (OpenSpec.upto mvccPruneSpec)

/-- 'docstorelaw18.MvccClone', WHERE WHAT IT READS IS OF BULK AT MOST 1048576: true; the input reads as it did. -/
def mvccCloneUptoRow : OpenClaim := { program := "ytaecppkkbdbdbaa", sum := "260456162a211a70c71f5af6037e65301cc64f7552e89e6b061cb26c8c39f406", func := "docstore/docstorelaw18.MvccClone", spec := "mvccClone", unfollowed := true, recurses := true, apart := false, narrowed := true }
def MvccCloneUptoSaid : Prop := mvccCloneUptoRow.holds Try.pinned (OpenSpec.upto mvccCloneSpec)

/-- 'docstorelaw18.MvccStop', WHERE WHAT IT READS IS OF BULK AT MOST 1048576: true; the input reads as it did. -/
def mvccStopUptoRow : OpenClaim := { program := "ytaecppkkbdbdbaa", sum := "260456162a211a70c71f5af6037e65301cc64f7552e89e6b061cb26c8c39f406", func := "docstore/docstorelaw18.MvccStop", spec := "mvccStop", unfollowed := true, recurses := true, apart := false, narrowed := true }
def MvccStopUptoSaid : Prop := mvccStopUptoRow.holds Try.pinned (OpenSpec.upto mvccStopSpec)

/-- 'docstorelaw18.MvccRollback', WHERE WHAT IT READS IS OF BULK AT MOST 1048576: true; the input reads as it did. -/
def mvccRollbackUptoRow : OpenClaim := { program := "ytaecppkkbdbdbaa", sum := "260456162a211a70c71f5af6037e65301cc64f7552e89e6b061cb26c8c39f406", func := "docstore/docstorelaw18.MvccRollback", spec := "mvccRollback", unfollowed := true, recurses := true, apart := false, narrowed := true }
def MvccRollbackUptoSaid : Prop := mvccRollbackUptoRow.holds Try.pinned (OpenSpec.upto mvccRollbackSpec)

/-- 'docstorelaw18.MvccSnapshot', WHERE WHAT IT READS IS OF BULK AT MOST 1048576: true; the input reads as it did. -/
def mvccSnapshotUptoRow : OpenClaim := { program := "ytaecppkkbdbdbaa", sum := "260456162a211a70c71f5af6037e65301cc64f7552e89e6b061cb26c8c39f406", func := "docstore/docstorelaw18.MvccSnapshot", spec := "mvccSnapshot", unfollowed := true, recurses := true, apart := false, narrowed := true }
def MvccSnapshotUptoSaid : Prop := mvccSnapshotUptoRow.holds Try.pinned (OpenSpec.upto mvccSnapshotSpec)

end Rows
end Go.Proofs.Ytaecppkkbdbdbaa
