/-
  No cell of these rows narrows 'for every input' (looked for: loops, veiled, ifaces, maps, wideKeys, modest, calm, conditions, laid).
  DERIVED. THE GIVEN ROWS OF THIS SEAT. 6 by the template 'for every input the law returns true; each argument reads behind the call as it read before'; 0 by the template 'total and deterministic' (their statements: YtegljepgncicjaaTotals.lean).
  GIVEN WITH THE SEED: the statements are not yours to turn. If you find one false, say at which input.
  Laid BY PROGRAM, IN A SANDBOX (cutbox-rows.mjs): the forced cells as the released guide's own fill.sh prints them over the translation 2315caec35d79207… (all of the seat's roots in one cut). By AI agents, Wed Nov 11 2026. No macro, syntax, notation, axiom, sorry.
-/
import Derived.Test.YtegljepgncicjaaChecked
import GoSem.Claim
import GoSem.ClaimJoined
import GoSem.ClaimMapViews
import Derived.JoinedTies
import Derived.KernelRfl
namespace Go.Proofs.Ytegljepgncicjaa
/- THE CELL 'sum', in the pinned program and in every row, IS THE sha256 OF THE DUMP (.gsa) THAT YtegljepgncicjaaProg.lean LOADS. Nothing in Lean hashes anything: it is a label: what it is worth is what the hold of that sum in a sandbox is worth. -/
noncomputable def Try.pinned : Pinned := { name := "ytegljepgncicjaa", sum := "2315caec35d792077192d9b3ed4301d2282b88c3d39df7260ac0921b94b29d45", checked := Try.checked }
namespace Rows
def none {H : Type} : Left H := { results := [], args := [] }

/-- 'docstorelaw17.BtreePlays': WHATEVER THE INPUT: true; the input reads as it did. -/
def btreePlaysSpec : ChangeSpec := { name := "btreePlays", fn := fun _ => fun
  | [d1, d2] => { results := [.lit (.bool true)], args := [d1, d2] }
  | _ => none }
def btreePlaysRow : OpenClaim := { program := "ytegljepgncicjaa", sum := "2315caec35d792077192d9b3ed4301d2282b88c3d39df7260ac0921b94b29d45", func := "docstore/docstorelaw17.BtreePlays", spec := "btreePlays", inPlace := ["slices.overlaps[string]", "slices.overlaps[*docstore/btree.node[string, string]]"], unfollowed := true, recurses := true, apart := false }
def BtreePlaysSaid : Prop := btreePlaysRow.holds Try.pinned (OpenSpec.ofChange btreePlaysSpec)

/-- ITS FALSE NEIGHBOUR: 'it returns false'. Refute it at one input. -/
def btreePlaysWrong : ChangeSpec := { name := "btreePlays", fn := fun _ => fun
  | [d1, d2] => { results := [.lit (.bool false)], args := [d1, d2] }
  | _ => none }
def BtreePlaysWrongFalsely : Prop := btreePlaysRow.holds Try.pinned (OpenSpec.ofChange btreePlaysWrong)

/-- 'docstorelaw17.BtreeScans': WHATEVER THE INPUT: true; the input reads as it did. -/
def btreeScansSpec : ChangeSpec := { name := "btreeScans", fn := fun _ => fun
  | [d1, d2, d3] => { results := [.lit (.bool true)], args := [d1, d2, d3] }
  | _ => none }
def btreeScansRow : OpenClaim := { program := "ytegljepgncicjaa", sum := "2315caec35d792077192d9b3ed4301d2282b88c3d39df7260ac0921b94b29d45", func := "docstore/docstorelaw17.BtreeScans", spec := "btreeScans", inPlace := ["slices.overlaps[string]", "slices.overlaps[*docstore/btree.node[string, string]]"], unfollowed := true, recurses := true, apart := false }
def BtreeScansSaid : Prop := btreeScansRow.holds Try.pinned (OpenSpec.ofChange btreeScansSpec)

/-- ITS FALSE NEIGHBOUR: 'it returns false'. Refute it at one input. -/
def btreeScansWrong : ChangeSpec := { name := "btreeScans", fn := fun _ => fun
  | [d1, d2, d3] => { results := [.lit (.bool false)], args := [d1, d2, d3] }
  | _ => none }
def BtreeScansWrongFalsely : Prop := btreeScansRow.holds Try.pinned (OpenSpec.ofChange btreeScansWrong)

/-- 'docstorelaw17.BtreeHeights': WHATEVER THE INPUT: true; the input reads as it did. -/
def btreeHeightsSpec : ChangeSpec := { name := "btreeHeights", fn := fun _ => fun
  | [d] => { results := [.lit (.bool true)], args := [d] }
  | _ => none }
def btreeHeightsRow : OpenClaim := { program := "ytegljepgncicjaa", sum := "2315caec35d792077192d9b3ed4301d2282b88c3d39df7260ac0921b94b29d45", func := "docstore/docstorelaw17.BtreeHeights", spec := "btreeHeights", inPlace := ["slices.overlaps[string]", "slices.overlaps[*docstore/btree.node[string, string]]"], unfollowed := true, recurses := true, apart := false }
def BtreeHeightsSaid : Prop := btreeHeightsRow.holds Try.pinned (OpenSpec.ofChange btreeHeightsSpec)

/-- ITS FALSE NEIGHBOUR: 'it returns false'. Refute it at one input. -/
def btreeHeightsWrong : ChangeSpec := { name := "btreeHeights", fn := fun _ => fun
  | [d] => { results := [.lit (.bool false)], args := [d] }
  | _ => none }
def BtreeHeightsWrongFalsely : Prop := btreeHeightsRow.holds Try.pinned (OpenSpec.ofChange btreeHeightsWrong)

/-- 'docstorelaw17.BtreeOrders': WHATEVER THE INPUT: true; the input reads as it did. -/
def btreeOrdersSpec : ChangeSpec := { name := "btreeOrders", fn := fun _ => fun
  | [d1, d2] => { results := [.lit (.bool true)], args := [d1, d2] }
  | _ => none }
def btreeOrdersRow : OpenClaim := { program := "ytegljepgncicjaa", sum := "2315caec35d792077192d9b3ed4301d2282b88c3d39df7260ac0921b94b29d45", func := "docstore/docstorelaw17.BtreeOrders", spec := "btreeOrders", inPlace := ["slices.overlaps[string]", "slices.overlaps[*docstore/btree.node[string, string]]"], unfollowed := true, recurses := true, apart := false }
def BtreeOrdersSaid : Prop := btreeOrdersRow.holds Try.pinned (OpenSpec.ofChange btreeOrdersSpec)

/-- ITS FALSE NEIGHBOUR: 'it returns false'. Refute it at one input. -/
def btreeOrdersWrong : ChangeSpec := { name := "btreeOrders", fn := fun _ => fun
  | [d1, d2] => { results := [.lit (.bool false)], args := [d1, d2] }
  | _ => none }
def BtreeOrdersWrongFalsely : Prop := btreeOrdersRow.holds Try.pinned (OpenSpec.ofChange btreeOrdersWrong)

/-- 'docstorelaw17.BtreeClones': WHATEVER THE INPUT: true; the input reads as it did. -/
def btreeClonesSpec : ChangeSpec := { name := "btreeClones", fn := fun _ => fun
  | [d1, d2, d3] => { results := [.lit (.bool true)], args := [d1, d2, d3] }
  | _ => none }
def btreeClonesRow : OpenClaim := { program := "ytegljepgncicjaa", sum := "2315caec35d792077192d9b3ed4301d2282b88c3d39df7260ac0921b94b29d45", func := "docstore/docstorelaw17.BtreeClones", spec := "btreeClones", inPlace := ["slices.overlaps[string]", "slices.overlaps[*docstore/btree.node[string, string]]"], unfollowed := true, recurses := true, apart := false }
def BtreeClonesSaid : Prop := btreeClonesRow.holds Try.pinned (OpenSpec.ofChange btreeClonesSpec)

/-- ITS FALSE NEIGHBOUR: 'it returns false'. Refute it at one input. -/
def btreeClonesWrong : ChangeSpec := { name := "btreeClones", fn := fun _ => fun
  | [d1, d2, d3] => { results := [.lit (.bool false)], args := [d1, d2, d3] }
  | _ => none }
def BtreeClonesWrongFalsely : Prop := btreeClonesRow.holds Try.pinned (OpenSpec.ofChange btreeClonesWrong)

/-- 'docstorelaw17.BtreeNil': WHATEVER THE INPUT: true; the input reads as it did. -/
def btreeNilSpec : ChangeSpec := { name := "btreeNil", fn := fun _ => fun
  | [d] => { results := [.lit (.bool true)], args := [d] }
  | _ => none }
def btreeNilRow : OpenClaim := { program := "ytegljepgncicjaa", sum := "2315caec35d792077192d9b3ed4301d2282b88c3d39df7260ac0921b94b29d45", func := "docstore/docstorelaw17.BtreeNil", spec := "btreeNil", inPlace := ["slices.overlaps[string]", "slices.overlaps[*docstore/btree.node[string, string]]"], unfollowed := true, recurses := true, apart := false }
def BtreeNilSaid : Prop := btreeNilRow.holds Try.pinned (OpenSpec.ofChange btreeNilSpec)

/-- ITS FALSE NEIGHBOUR: 'it returns false'. Refute it at one input. -/
def btreeNilWrong : ChangeSpec := { name := "btreeNil", fn := fun _ => fun
  | [d] => { results := [.lit (.bool false)], args := [d] }
  | _ => none }
def BtreeNilWrongFalsely : Prop := btreeNilRow.holds Try.pinned (OpenSpec.ofChange btreeNilWrong)

/- THE SECOND FORM. 'bulk': how many values and letters a reading holds, each counted each time it is reached (what is shared counts as often as it is met; a slice's spare places count too). A statement '..UptoSaid' is the law's where the arguments, and the package variables that the reading takes, are together of bulk at most 1048576: NARROWER than '..Said'. Prove '..Said' where nothing that the law and all that it calls make is longer than what came in: it says more and counts as full. Else prove '..UptoSaid'. A law counts once. -/
mutual
def uptoBulk {H : Type} : DataW H → Nat
  | .lit (.string bytes) => bytes.length + 1
  | .lit _ => 1
  | .nil => 1
  | .ptr d => uptoBulk d + 1
  | .slice elems spare => uptoBulkAll elems + uptoBulkAll spare + 1
  | .agg parts => uptoBulkAll parts + 1
  | .iface _ d => uptoBulk d + 1
  | .map entries => uptoBulkEntries entries + 1
  | .held _ => 1
def uptoBulkAll {H : Type} : List (DataW H) → Nat
  | [] => 0
  | d :: r => uptoBulk d + uptoBulkAll r
def uptoBulkEntries {H : Type} : List (Lit × DataW H) → Nat
  | [] => 0
  | x :: r => uptoBulkEntry x + uptoBulkEntries r
def uptoBulkEntry {H : Type} : Lit × DataW H → Nat
  | (.string bytes, d) => bytes.length + uptoBulk d + 1
  | (_, d) => uptoBulk d + 1
 end
def uptoSmall : (H : Type) → List (DataW H) → Bool := fun _ ds => decide (uptoBulkAll ds ≤ 1048576)
def OpenSpec.upto (s : _root_.Go.ChangeSpec) : _root_.Go.OpenSpec := { _root_.Go.OpenSpec.ofChange s with cond := some uptoSmall }

/-- 'docstorelaw17.BtreePlays', WHERE WHAT IT READS IS OF BULK AT MOST 1048576: true; the input reads as it did. -/
def btreePlaysUptoRow : OpenClaim := { program := "ytegljepgncicjaa", sum := "2315caec35d792077192d9b3ed4301d2282b88c3d39df7260ac0921b94b29d45", func := "docstore/docstorelaw17.BtreePlays", spec := "btreePlays", inPlace := ["slices.overlaps[string]", "slices.overlaps[*docstore/btree.node[string, string]]"], unfollowed := true, recurses := true, apart := false, narrowed := true }
def BtreePlaysUptoSaid : Prop := btreePlaysUptoRow.holds Try.pinned (OpenSpec.upto btreePlaysSpec)

/-- 'docstorelaw17.BtreeScans', WHERE WHAT IT READS IS OF BULK AT MOST 1048576: true; the input reads as it did. -/
def btreeScansUptoRow : OpenClaim := { program := "ytegljepgncicjaa", sum := "2315caec35d792077192d9b3ed4301d2282b88c3d39df7260ac0921b94b29d45", func := "docstore/docstorelaw17.BtreeScans", spec := "btreeScans", inPlace := ["slices.overlaps[string]", "slices.overlaps[*docstore/btree.node[string, string]]"], unfollowed := true, recurses := true, apart := false, narrowed := true }
def BtreeScansUptoSaid : Prop := btreeScansUptoRow.holds Try.pinned (OpenSpec.upto btreeScansSpec)

/-- 'docstorelaw17.BtreeHeights', WHERE WHAT IT READS IS OF BULK AT MOST 1048576: true; the input reads as it did. -/
def btreeHeightsUptoRow : OpenClaim := { program := "ytegljepgncicjaa", sum := "2315caec35d792077192d9b3ed4301d2282b88c3d39df7260ac0921b94b29d45", func := "docstore/docstorelaw17.BtreeHeights", spec := "btreeHeights", inPlace := ["slices.overlaps[string]", "slices.overlaps[*docstore/btree.node[string, string]]"], unfollowed := true, recurses := true, apart := false, narrowed := true }
def BtreeHeightsUptoSaid : Prop := btreeHeightsUptoRow.holds Try.pinned (OpenSpec.upto btreeHeightsSpec)

/-- 'docstorelaw17.BtreeOrders', WHERE WHAT IT READS IS OF BULK AT MOST 1048576: true; the input reads as it did. -/
def btreeOrdersUptoRow : OpenClaim := { program := "ytegljepgncicjaa", sum := "2315caec35d792077192d9b3ed4301d2282b88c3d39df7260ac0921b94b29d45", func := "docstore/docstorelaw17.BtreeOrders", spec := "btreeOrders", inPlace := ["slices.overlaps[string]", "slices.overlaps[*docstore/btree.node[string, string]]"], unfollowed := true, recurses := true, apart := false, narrowed := true }
def BtreeOrdersUptoSaid : Prop := btreeOrdersUptoRow.holds Try.pinned (OpenSpec.upto btreeOrdersSpec)

/-- 'docstorelaw17.BtreeClones', WHERE WHAT IT READS IS OF BULK AT MOST 1048576: true; the input reads as it did. -/
def btreeClonesUptoRow : OpenClaim := { program := "ytegljepgncicjaa", sum := "2315caec35d792077192d9b3ed4301d2282b88c3d39df7260ac0921b94b29d45", func := "docstore/docstorelaw17.BtreeClones", spec := "btreeClones", inPlace := ["slices.overlaps[string]", "slices.overlaps[*docstore/btree.node[string, string]]"], unfollowed := true, recurses := true, apart := false, narrowed := true }
def BtreeClonesUptoSaid : Prop := btreeClonesUptoRow.holds Try.pinned (OpenSpec.upto btreeClonesSpec)

/-- 'docstorelaw17.BtreeNil', WHERE WHAT IT READS IS OF BULK AT MOST 1048576: true; the input reads as it did. -/
def btreeNilUptoRow : OpenClaim := { program := "ytegljepgncicjaa", sum := "2315caec35d792077192d9b3ed4301d2282b88c3d39df7260ac0921b94b29d45", func := "docstore/docstorelaw17.BtreeNil", spec := "btreeNil", inPlace := ["slices.overlaps[string]", "slices.overlaps[*docstore/btree.node[string, string]]"], unfollowed := true, recurses := true, apart := false, narrowed := true }
def BtreeNilUptoSaid : Prop := btreeNilUptoRow.holds Try.pinned (OpenSpec.upto btreeNilSpec)

end Rows
end Go.Proofs.Ytegljepgncicjaa
