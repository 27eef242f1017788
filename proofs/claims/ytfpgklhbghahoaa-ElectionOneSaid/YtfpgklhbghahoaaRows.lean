/-
  NARROWER THAN 'FOR EVERY INPUT', by the rows' own cells (each row's printed sentence says how): ElectionValid: loops · ElectionVotes: loops · ElectionCounts: loops · ElectionOne: loops · ElectionGrants: loops.
  DERIVED. THE GIVEN ROWS OF THIS SEAT. 6 by the template 'for every input the law returns true; each argument reads behind the call as it read before'; 0 by the template 'total and deterministic' (their statements: YtfpgklhbghahoaaTotals.lean).
  GIVEN WITH THE SEED: the statements are not yours to turn. If you find one false, say at which input.
  Laid BY PROGRAM, IN A SANDBOX (cutbox-rows.mjs): the forced cells as the released guide's own fill.sh prints them over the translation 73a94e7ed4b78d13… (all of the seat's roots in one cut). By AI agents, Wed Nov 11 2026. No macro, syntax, notation, axiom, sorry.
-/
import Derived.Test.YtfpgklhbghahoaaChecked
import GoSem.Claim
import GoSem.ClaimJoined
import GoSem.ClaimMapViews
import Derived.JoinedTies
import Derived.KernelRfl
namespace Go.Proofs.Ytfpgklhbghahoaa
/- THE CELL 'sum', in the pinned program and in every row, IS THE sha256 OF THE DUMP (.gsa) THAT YtfpgklhbghahoaaProg.lean LOADS. Nothing in Lean hashes anything: it is a label: what it is worth is what the hold of that sum in a sandbox is worth. -/
noncomputable def Try.pinned : Pinned := { name := "ytfpgklhbghahoaa", sum := "73a94e7ed4b78d13390d8a646f42680357b26d39d1ac0a0730333ab788a381be", checked := Try.checked }
namespace Rows
def none {H : Type} : Left H := { results := [], args := [] }

/-- 'docstorelaw42.ElectionNew': WHATEVER THE INPUT: true; the input reads as it did. -/
def electionNewSpec : ChangeSpec := { name := "electionNew", fn := fun _ => fun
  | [d1, d2] => { results := [.lit (.bool true)], args := [d1, d2] }
  | _ => none }
def electionNewRow : OpenClaim := { program := "ytfpgklhbghahoaa", sum := "73a94e7ed4b78d13390d8a646f42680357b26d39d1ac0a0730333ab788a381be", func := "docstore/docstorelaw42.ElectionNew", spec := "electionNew", unfollowed := true, recurses := true, apart := false }
def ElectionNewSaid : Prop := electionNewRow.holds Try.pinned (OpenSpec.ofChange electionNewSpec)

/-- ITS FALSE NEIGHBOUR: 'it returns false'. Refute it at one input. -/
def electionNewWrong : ChangeSpec := { name := "electionNew", fn := fun _ => fun
  | [d1, d2] => { results := [.lit (.bool false)], args := [d1, d2] }
  | _ => none }
def ElectionNewWrongFalsely : Prop := electionNewRow.holds Try.pinned (OpenSpec.ofChange electionNewWrong)

/-- 'docstorelaw42.ElectionValid': WHATEVER THE INPUT: true; the input reads as it did. -/
def electionValidSpec : ChangeSpec := { name := "electionValid", fn := fun _ => fun
  | [d] => { results := [.lit (.bool true)], args := [d] }
  | _ => none }
def electionValidRow : OpenClaim := { program := "ytfpgklhbghahoaa", sum := "73a94e7ed4b78d13390d8a646f42680357b26d39d1ac0a0730333ab788a381be", func := "docstore/docstorelaw42.ElectionValid", spec := "electionValid", unfollowed := true, recurses := true, loops := true, apart := false }
def ElectionValidSaid : Prop := electionValidRow.holds Try.pinned (OpenSpec.ofChange electionValidSpec)

/-- ITS FALSE NEIGHBOUR: 'it returns false'. Refute it at one input. -/
def electionValidWrong : ChangeSpec := { name := "electionValid", fn := fun _ => fun
  | [d] => { results := [.lit (.bool false)], args := [d] }
  | _ => none }
def ElectionValidWrongFalsely : Prop := electionValidRow.holds Try.pinned (OpenSpec.ofChange electionValidWrong)

/-- 'docstorelaw42.ElectionVotes': WHATEVER THE INPUT: true; the input reads as it did. -/
def electionVotesSpec : ChangeSpec := { name := "electionVotes", fn := fun _ => fun
  | [d1, d2] => { results := [.lit (.bool true)], args := [d1, d2] }
  | _ => none }
def electionVotesRow : OpenClaim := { program := "ytfpgklhbghahoaa", sum := "73a94e7ed4b78d13390d8a646f42680357b26d39d1ac0a0730333ab788a381be", func := "docstore/docstorelaw42.ElectionVotes", spec := "electionVotes", unfollowed := true, recurses := true, loops := true, apart := false }
def ElectionVotesSaid : Prop := electionVotesRow.holds Try.pinned (OpenSpec.ofChange electionVotesSpec)

/-- ITS FALSE NEIGHBOUR: 'it returns false'. Refute it at one input. -/
def electionVotesWrong : ChangeSpec := { name := "electionVotes", fn := fun _ => fun
  | [d1, d2] => { results := [.lit (.bool false)], args := [d1, d2] }
  | _ => none }
def ElectionVotesWrongFalsely : Prop := electionVotesRow.holds Try.pinned (OpenSpec.ofChange electionVotesWrong)

/-- 'docstorelaw42.ElectionCounts': WHATEVER THE INPUT: true; the input reads as it did. -/
def electionCountsSpec : ChangeSpec := { name := "electionCounts", fn := fun _ => fun
  | [d1, d2] => { results := [.lit (.bool true)], args := [d1, d2] }
  | _ => none }
def electionCountsRow : OpenClaim := { program := "ytfpgklhbghahoaa", sum := "73a94e7ed4b78d13390d8a646f42680357b26d39d1ac0a0730333ab788a381be", func := "docstore/docstorelaw42.ElectionCounts", spec := "electionCounts", unfollowed := true, recurses := true, loops := true, apart := false }
def ElectionCountsSaid : Prop := electionCountsRow.holds Try.pinned (OpenSpec.ofChange electionCountsSpec)

/-- ITS FALSE NEIGHBOUR: 'it returns false'. Refute it at one input. -/
def electionCountsWrong : ChangeSpec := { name := "electionCounts", fn := fun _ => fun
  | [d1, d2] => { results := [.lit (.bool false)], args := [d1, d2] }
  | _ => none }
def ElectionCountsWrongFalsely : Prop := electionCountsRow.holds Try.pinned (OpenSpec.ofChange electionCountsWrong)

/-- 'docstorelaw42.ElectionOne': WHATEVER THE INPUT: true; the input reads as it did. -/
def electionOneSpec : ChangeSpec := { name := "electionOne", fn := fun _ => fun
  | [d1, d2, d3] => { results := [.lit (.bool true)], args := [d1, d2, d3] }
  | _ => none }
def electionOneRow : OpenClaim := { program := "ytfpgklhbghahoaa", sum := "73a94e7ed4b78d13390d8a646f42680357b26d39d1ac0a0730333ab788a381be", func := "docstore/docstorelaw42.ElectionOne", spec := "electionOne", unfollowed := true, recurses := true, loops := true, apart := false }
def ElectionOneSaid : Prop := electionOneRow.holds Try.pinned (OpenSpec.ofChange electionOneSpec)

/-- ITS FALSE NEIGHBOUR: 'it returns false'. Refute it at one input. -/
def electionOneWrong : ChangeSpec := { name := "electionOne", fn := fun _ => fun
  | [d1, d2, d3] => { results := [.lit (.bool false)], args := [d1, d2, d3] }
  | _ => none }
def ElectionOneWrongFalsely : Prop := electionOneRow.holds Try.pinned (OpenSpec.ofChange electionOneWrong)

/-- 'docstorelaw42.ElectionGrants': WHATEVER THE INPUT: true; the input reads as it did. -/
def electionGrantsSpec : ChangeSpec := { name := "electionGrants", fn := fun _ => fun
  | [d1, d2] => { results := [.lit (.bool true)], args := [d1, d2] }
  | _ => none }
def electionGrantsRow : OpenClaim := { program := "ytfpgklhbghahoaa", sum := "73a94e7ed4b78d13390d8a646f42680357b26d39d1ac0a0730333ab788a381be", func := "docstore/docstorelaw42.ElectionGrants", spec := "electionGrants", unfollowed := true, recurses := true, loops := true, apart := false }
def ElectionGrantsSaid : Prop := electionGrantsRow.holds Try.pinned (OpenSpec.ofChange electionGrantsSpec)

/-- ITS FALSE NEIGHBOUR: 'it returns false'. Refute it at one input. -/
def electionGrantsWrong : ChangeSpec := { name := "electionGrants", fn := fun _ => fun
  | [d1, d2] => { results := [.lit (.bool false)], args := [d1, d2] }
  | _ => none }
def ElectionGrantsWrongFalsely : Prop := electionGrantsRow.holds Try.pinned (OpenSpec.ofChange electionGrantsWrong)

/- THE SECOND FORM. 'bulk': how many values and letters a reading holds, each counted each time it is reached (what is shared counts as often as it is met; a slice's spare places count too). A statement '..UptoSaid' is the law's where the arguments, and the package variables that the reading takes, are together of bulk at most 1048576: NARROWER than '..Said'. Prove '..Said' where nothing that the law and all that it calls make is longer than what came in: it says more and counts as full. Else prove '..UptoSaid'. A law counts once. -/
mutual
def uptoBulk {H : Type} : DataW H → Nat
  | .lit (.string bytes) => bytes.length + 1
  | .lit _ => 1
  | .nil => 1
  | .ptr d => uptoBulk d + 1
  | .slice elems spare => uptoBulkAll elems + uptoBulkAll spare + 1
  | .agg parts => uptoBulkAll parts + 1
  | .iface _ d => uptoBulk d + 1
  | .map entries => uptoBulkEntries entries + 1
  | .held _ => 1
def uptoBulkAll {H : Type} : List (DataW H) → Nat
  | [] => 0
  | d :: r => uptoBulk d + uptoBulkAll r
def uptoBulkEntries {H : Type} : List (Lit × DataW H) → Nat
  | [] => 0
  | x :: r => uptoBulkEntry x + uptoBulkEntries r
def uptoBulkEntry {H : Type} : Lit × DataW H → Nat
  | (.string bytes, d) => bytes.length + uptoBulk d + 1
  | (_, d) => uptoBulk d + 1
 end
def uptoSmall : (H : Type) → List (DataW H) → Bool := fun _ ds => decide (uptoBulkAll ds ≤ 1048576)
def OpenSpec.upto (s : _root_.Go.ChangeSpec) : _root_.Go.OpenSpec := { _root_.Go.OpenSpec.ofChange s with cond := some uptoSmall }

/-- 'docstorelaw42.ElectionNew', WHERE WHAT IT READS IS OF BULK AT MOST 1048576: true; the input reads as it did. -/
def electionNewUptoRow : OpenClaim := { program := "ytfpgklhbghahoaa", sum := "73a94e7ed4b78d13390d8a646f42680357b26d39d1ac0a0730333ab788a381be", func := "docstore/docstorelaw42.ElectionNew", spec := "electionNew", unfollowed := true, recurses := true, apart := false, narrowed := true }
def ElectionNewUptoSaid : Prop := electionNewUptoRow.holds Try.pinned (OpenSpec.upto electionNewSpec)

/-- 'docstorelaw42.ElectionValid', WHERE WHAT IT READS IS OF BULK AT MOST 1048576: true; the input reads as it did. -/
def electionValidUptoRow : OpenClaim := { program := "ytfpgklhbghahoaa", sum := "73a94e7ed4b78d13390d8a646f42680357b26d39d1ac0a0730333ab788a381be", func := "docstore/docstorelaw42.ElectionValid", spec := "electionValid", unfollowed := true, recurses := true, loops := true, apart := false, narrowed := true }
def ElectionValidUptoSaid : Prop := electionValidUptoRow.holds Try.pinned (OpenSpec.upto electionValidSpec)

/-- 'docstorelaw42.ElectionVotes', WHERE WHAT IT READS IS OF BULK AT MOST 1048576: true; the input reads as it did. -/
def electionVotesUptoRow : OpenClaim := { program := "ytfpgklhbghahoaa", sum := "73a94e7ed4b78d13390d8a646f42680357b26d39d1ac0a0730333ab788a381be", func := "docstore/docstorelaw42.ElectionVotes", spec := "electionVotes", unfollowed := true, recurses := true, loops := true, apart := false, narrowed := true }
def ElectionVotesUptoSaid : Prop := electionVotesUptoRow.holds Try.pinned (OpenSpec.upto electionVotesSpec)

/-- 'docstorelaw42.ElectionCounts', WHERE WHAT IT READS IS OF BULK AT MOST 1048576: true; the input reads as it did. -/
def electionCountsUptoRow : OpenClaim := { program := "ytfpgklhbghahoaa", sum := "73a94e7ed4b78d13390d8a646f42680357b26d39d1ac0a0730333ab788a381be", func := "docstore/docstorelaw42.ElectionCounts", spec := "electionCounts", unfollowed := true, recurses := true, loops := true, apart := false, narrowed := true }
def ElectionCountsUptoSaid : Prop := electionCountsUptoRow.holds Try.pinned (OpenSpec.upto electionCountsSpec)

/-- 'docstorelaw42.ElectionOne', WHERE WHAT IT READS IS OF BULK AT MOST 1048576: true; the input reads as it did. -/
def electionOneUptoRow : OpenClaim := { program := "ytfpgklhbghahoaa", sum := "73a94e7ed4b78d13390d8a646f42680357b26d39d1ac0a0730333ab788a381be", func := "docstore/docstorelaw42.ElectionOne", spec := "electionOne", unfollowed := true, recurses := true, loops := true, apart := false, narrowed := true }
def ElectionOneUptoSaid : Prop := electionOneUptoRow.holds Try.pinned (OpenSpec.upto electionOneSpec)

/-- 'docstorelaw42.ElectionGrants', WHERE WHAT IT READS IS OF BULK AT MOST 1048576: true; the input reads as it did. -/
def electionGrantsUptoRow : OpenClaim := { program := "ytfpgklhbghahoaa", sum := "73a94e7ed4b78d13390d8a646f42680357b26d39d1ac0a0730333ab788a381be", func := "docstore/docstorelaw42.ElectionGrants", spec := "electionGrants", unfollowed := true, recurses := true, loops := true, apart := false, narrowed := true }
def ElectionGrantsUptoSaid : Prop := electionGrantsUptoRow.holds Try.pinned (OpenSpec.upto electionGrantsSpec)

end Rows
end Go.Proofs.Ytfpgklhbghahoaa
