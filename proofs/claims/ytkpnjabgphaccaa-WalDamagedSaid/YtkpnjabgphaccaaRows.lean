/-
  No cell of these rows narrows 'for every input' (looked for: loops, veiled, ifaces, maps, wideKeys, modest, calm, conditions, laid).
  DERIVED. THE GIVEN ROWS OF THIS SEAT. 6 by the template 'for every input the law returns true; each argument reads behind the call as it read before'; 0 by the template 'total and deterministic' (their statements: YtkpnjabgphaccaaTotals.lean).
  GIVEN WITH THE SEED: the statements are not yours to turn. If you find one false, say at which input.
  Laid BY PROGRAM, IN A SANDBOX (cutbox-rows.mjs): the forced cells as the released guide's own fill.sh prints them over the translation 3532bcdd374558f7… (all of the seat's roots in one cut). By AI agents, Wed Nov 11 2026. No macro, syntax, notation, axiom, sorry.
-/
import Derived.Test.YtkpnjabgphaccaaChecked
import GoSem.Claim
import GoSem.ClaimJoined
import GoSem.ClaimMapViews
import Derived.JoinedTies
import Derived.KernelRfl
namespace Go.Proofs.Ytkpnjabgphaccaa
/- THE CELL 'sum', in the pinned program and in every row, IS THE sha256 OF THE DUMP (.gsa) THAT YtkpnjabgphaccaaProg.lean LOADS. Nothing in Lean hashes anything: it is a label: what it is worth is what the hold of that sum in a sandbox is worth. -/
noncomputable def Try.pinned : Pinned := { name := "ytkpnjabgphaccaa", sum := "3532bcdd374558f74c1323aa83115fe0dbcd3fb6f373f618319b0b885de53782", checked := Try.checked }
namespace Rows
def none {H : Type} : Left H := { results := [], args := [] }

/-- 'docstorelaw19.WalFrames': WHATEVER THE INPUT: true; the input reads as it did. -/
def walFramesSpec : ChangeSpec := { name := "walFrames", fn := fun _ => fun
  | [d1, d2] => { results := [.lit (.bool true)], args := [d1, d2] }
  | _ => none }
def walFramesRow : OpenClaim := { program := "ytkpnjabgphaccaa", sum := "3532bcdd374558f74c1323aa83115fe0dbcd3fb6f373f618319b0b885de53782", func := "docstore/docstorelaw19.WalFrames", spec := "walFrames", apart := false }
def WalFramesSaid : Prop := walFramesRow.holds Try.pinned (OpenSpec.ofChange walFramesSpec)

/-- ITS FALSE NEIGHBOUR: 'it returns false'. Refute it at one input. -/
def walFramesWrong : ChangeSpec := { name := "walFrames", fn := fun _ => fun
  | [d1, d2] => { results := [.lit (.bool false)], args := [d1, d2] }
  | _ => none }
def WalFramesWrongFalsely : Prop := walFramesRow.holds Try.pinned (OpenSpec.ofChange walFramesWrong)

/-- 'docstorelaw19.WalReads': WHATEVER THE INPUT: true; the input reads as it did. -/
def walReadsSpec : ChangeSpec := { name := "walReads", fn := fun _ => fun
  | [d] => { results := [.lit (.bool true)], args := [d] }
  | _ => none }
def walReadsRow : OpenClaim := { program := "ytkpnjabgphaccaa", sum := "3532bcdd374558f74c1323aa83115fe0dbcd3fb6f373f618319b0b885de53782", func := "docstore/docstorelaw19.WalReads", spec := "walReads", apart := false }
def WalReadsSaid : Prop := walReadsRow.holds Try.pinned (OpenSpec.ofChange walReadsSpec)

/-- ITS FALSE NEIGHBOUR: 'it returns false'. Refute it at one input. -/
def walReadsWrong : ChangeSpec := { name := "walReads", fn := fun _ => fun
  | [d] => { results := [.lit (.bool false)], args := [d] }
  | _ => none }
def WalReadsWrongFalsely : Prop := walReadsRow.holds Try.pinned (OpenSpec.ofChange walReadsWrong)

/-- 'docstorelaw19.WalKeeps': WHATEVER THE INPUT: true; the input reads as it did. -/
def walKeepsSpec : ChangeSpec := { name := "walKeeps", fn := fun _ => fun
  | [d1, d2] => { results := [.lit (.bool true)], args := [d1, d2] }
  | _ => none }
def walKeepsRow : OpenClaim := { program := "ytkpnjabgphaccaa", sum := "3532bcdd374558f74c1323aa83115fe0dbcd3fb6f373f618319b0b885de53782", func := "docstore/docstorelaw19.WalKeeps", spec := "walKeeps", apart := false }
def WalKeepsSaid : Prop := walKeepsRow.holds Try.pinned (OpenSpec.ofChange walKeepsSpec)

/-- ITS FALSE NEIGHBOUR: 'it returns false'. Refute it at one input. -/
def walKeepsWrong : ChangeSpec := { name := "walKeeps", fn := fun _ => fun
  | [d1, d2] => { results := [.lit (.bool false)], args := [d1, d2] }
  | _ => none }
def WalKeepsWrongFalsely : Prop := walKeepsRow.holds Try.pinned (OpenSpec.ofChange walKeepsWrong)

/-- 'docstorelaw19.WalDamaged': WHATEVER THE INPUT: true; the input reads as it did. -/
def walDamagedSpec : ChangeSpec := { name := "walDamaged", fn := fun _ => fun
  | [d] => { results := [.lit (.bool true)], args := [d] }
  | _ => none }
def walDamagedRow : OpenClaim := { program := "ytkpnjabgphaccaa", sum := "3532bcdd374558f74c1323aa83115fe0dbcd3fb6f373f618319b0b885de53782", func := "docstore/docstorelaw19.WalDamaged", spec := "walDamaged", apart := false }
def WalDamagedSaid : Prop := walDamagedRow.holds Try.pinned (OpenSpec.ofChange walDamagedSpec)

/-- ITS FALSE NEIGHBOUR: 'it returns false'. Refute it at one input. -/
def walDamagedWrong : ChangeSpec := { name := "walDamaged", fn := fun _ => fun
  | [d] => { results := [.lit (.bool false)], args := [d] }
  | _ => none }
def WalDamagedWrongFalsely : Prop := walDamagedRow.holds Try.pinned (OpenSpec.ofChange walDamagedWrong)

/-- 'docstorelaw19.WalRecovers': WHATEVER THE INPUT: true; the input reads as it did. -/
def walRecoversSpec : ChangeSpec := { name := "walRecovers", fn := fun _ => fun
  | [d] => { results := [.lit (.bool true)], args := [d] }
  | _ => none }
def walRecoversRow : OpenClaim := { program := "ytkpnjabgphaccaa", sum := "3532bcdd374558f74c1323aa83115fe0dbcd3fb6f373f618319b0b885de53782", func := "docstore/docstorelaw19.WalRecovers", spec := "walRecovers", apart := false }
def WalRecoversSaid : Prop := walRecoversRow.holds Try.pinned (OpenSpec.ofChange walRecoversSpec)

/-- ITS FALSE NEIGHBOUR: 'it returns false'. Refute it at one input. -/
def walRecoversWrong : ChangeSpec := { name := "walRecovers", fn := fun _ => fun
  | [d] => { results := [.lit (.bool false)], args := [d] }
  | _ => none }
def WalRecoversWrongFalsely : Prop := walRecoversRow.holds Try.pinned (OpenSpec.ofChange walRecoversWrong)

/-- 'docstorelaw19.WalSealed': WHATEVER THE INPUT: true; the input reads as it did. -/
def walSealedSpec : ChangeSpec := { name := "walSealed", fn := fun _ => fun
  | [d] => { results := [.lit (.bool true)], args := [d] }
  | _ => none }
def walSealedRow : OpenClaim := { program := "ytkpnjabgphaccaa", sum := "3532bcdd374558f74c1323aa83115fe0dbcd3fb6f373f618319b0b885de53782", func := "docstore/docstorelaw19.WalSealed", spec := "walSealed", apart := false }
def WalSealedSaid : Prop := walSealedRow.holds Try.pinned (OpenSpec.ofChange walSealedSpec)

/-- ITS FALSE NEIGHBOUR: 'it returns false'. Refute it at one input. -/
def walSealedWrong : ChangeSpec := { name := "walSealed", fn := fun _ => fun
  | [d] => { results := [.lit (.bool false)], args := [d] }
  | _ => none }
def WalSealedWrongFalsely : Prop := walSealedRow.holds Try.pinned (OpenSpec.ofChange walSealedWrong)

/- THE SECOND FORM. 'bulk': how many values and letters a reading holds, each counted each time it is reached (what is shared counts as often as it is met; a slice's spare places count too). A statement '..UptoSaid' is the law's where the arguments, and the package variables that the reading takes, are together of bulk at most 1048576: NARROWER than '..Said'. Prove '..Said' where nothing that the law and all that it calls make is longer than what came in: it says more and counts as full. Else prove '..UptoSaid'. A law counts once. -/
mutual
def uptoBulk {H : Type} : DataW H → Nat
  | .lit (.string bytes) => bytes.length + 1
  | .lit _ => 1
  | .nil => 1
  | .ptr d => uptoBulk d + 1
  | .slice elems spare => uptoBulkAll elems + uptoBulkAll spare + 1
  | .agg parts => uptoBulkAll parts + 1
  | .iface _ d => uptoBulk d + 1
  | .map entries => uptoBulkEntries entries + 1
  | .held _ => 1
def uptoBulkAll {H : Type} : List (DataW H) → Nat
  | [] => 0
  | d :: r => uptoBulk d + uptoBulkAll r
def uptoBulkEntries {H : Type} : List (Lit × DataW H) → Nat
  | [] => 0
  | x :: r => uptoBulkEntry x + uptoBulkEntries r
def uptoBulkEntry {H : Type} : Lit × DataW H → Nat
  | (.string bytes, d) => bytes.length + uptoBulk d + 1
  | (_, d) => uptoBulk d + 1
 end
def uptoSmall : (H : Type) → List (DataW H) → Bool := fun _ ds => decide (uptoBulkAll ds ≤ 1048576)
def OpenSpec.upto (s : _root_.Go.ChangeSpec) : _root_.Go.OpenSpec := { _root_.Go.OpenSpec.ofChange s with cond := some uptoSmall }

/-- 'docstorelaw19.WalFrames', WHERE WHAT IT READS IS OF BULK AT MOST 1048576: true; the input reads as it did. -/
def walFramesUptoRow : OpenClaim := { program := "ytkpnjabgphaccaa", sum := "3532bcdd374558f74c1323aa83115fe0dbcd3fb6f373f618319b0b885de53782", func := "docstore/docstorelaw19.WalFrames", spec := "walFrames", apart := false, narrowed := true }
def WalFramesUptoSaid : Prop := walFramesUptoRow.holds Try.pinned (OpenSpec.upto walFramesSpec)

/-- 'docstorelaw19.WalReads', WHERE WHAT IT READS IS OF BULK AT MOST 1048576: true; the input reads as it did. -/
def walReadsUptoRow : OpenClaim := { program := "ytkpnjabgphaccaa", sum := "3532bcdd374558f74c1323aa83115fe0dbcd3fb6f373f618319b0b885de53782", func := "docstore/docstorelaw19.WalReads", spec := "walReads", apart := false, narrowed := true }
def WalReadsUptoSaid : Prop := walReadsUptoRow.holds Try.pinned (OpenSpec.upto walReadsSpec)

/-- 'docstorelaw19.WalKeeps', WHERE WHAT IT READS IS OF BULK AT MOST 1048576: true; the input reads as it did. -/
def walKeepsUptoRow : OpenClaim := { program := "ytkpnjabgphaccaa", sum := "3532bcdd374558f74c1323aa83115fe0dbcd3fb6f373f618319b0b885de53782", func := "docstore/docstorelaw19.WalKeeps", spec := "walKeeps", apart := false, narrowed := true }
def WalKeepsUptoSaid : Prop := walKeepsUptoRow.holds Try.pinned (OpenSpec.upto walKeepsSpec)

/-- 'docstorelaw19.WalDamaged', WHERE WHAT IT READS IS OF BULK AT MOST 1048576: true; the input reads as it did. -/
def walDamagedUptoRow : OpenClaim := { program := "ytkpnjabgphaccaa", sum := "3532bcdd374558f74c1323aa83115fe0dbcd3fb6f373f618319b0b885de53782", func := "docstore/docstorelaw19.WalDamaged", spec := "walDamaged", apart := false, narrowed := true }
def WalDamagedUptoSaid : Prop := walDamagedUptoRow.holds Try.pinned (OpenSpec.upto walDamagedSpec)

/-- 'docstorelaw19.WalRecovers', WHERE WHAT IT READS IS OF BULK AT MOST 1048576: true; the input reads as it did. -/
def walRecoversUptoRow : OpenClaim := { program := "ytkpnjabgphaccaa", sum := "3532bcdd374558f74c1323aa83115fe0dbcd3fb6f373f618319b0b885de53782", func := "docstore/docstorelaw19.WalRecovers", spec := "walRecovers", apart := false, narrowed := true }
def WalRecoversUptoSaid : Prop := walRecoversUptoRow.holds Try.pinned (OpenSpec.upto walRecoversSpec)

/-- 'docstorelaw19.WalSealed', WHERE WHAT IT READS IS OF BULK AT MOST 1048576: true; the input reads as it did. -/
def walSealedUptoRow : OpenClaim := { program := "ytkpnjabgphaccaa", sum := "3532bcdd374558f74c1323aa83115fe0dbcd3fb6f373f618319b0b885de53782", func := "docstore/docstorelaw19.WalSealed", spec := "walSealed", apart := false, narrowed := true }
def WalSealedUptoSaid : Prop := walSealedUptoRow.holds Try.pinned (OpenSpec.upto walSealedSpec)

end Rows
end Go.Proofs.Ytkpnjabgphaccaa
