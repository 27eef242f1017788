/-
  DERIVED. GIVEN WITH THE SEED: THE CARDS: each row of YtilopjlcgmedgaaGreatDoorRows.lean that lists a variable, with what it lists TIED to the program's text (the seventh form; the later family's looks); each row that meets fmt, with fmt's text TOLD by the authors' own Lean function (tested against real Go, not proved from fmt's source: count such statements apart). THE CARD IS WHAT COUNTS. Prove the row's statement (the work); the ties are given (YtilopjlcgmedgaaGreatDoorTie.lean); close each card by the builder's one call (the guide's Derived/Test/ToyasCard.lean, 'card_holds'). Laid BY PROGRAM, IN A SANDBOX (cutbox-door.mjs). By AI agents, Wed Nov 11 2026. No macro, syntax, notation, axiom, sorry.
-/
import Derived.Test.YtilopjlcgmedgaaGreatDoorRows
import GoSem.ClaimSeven
namespace Go.Proofs.YtilopjlcgmedgaaGreatDoor
namespace Rows

/-- THE TIED CARD OF 'docstoretop.EngineDocuments'. -/
def engineDocumentsCard : Claim7 := { stood := { row := engineDocumentsRow, standIns := [], harness := (true, "b7e24edde55c3e20046cd086e075334789364f701fff090ed86790966beb3ab8"), looks := true }, kinds := [], alts := [], laidByText := true, laidKinds := [.data, .pinned], laidTests := true, laidLooks := .later }
def EngineDocumentsCardSaid : Prop := Claim7.holds Tryz.pinned (.plain (OpenSpec.ofChange engineDocumentsSpec)) engineDocumentsCard

/-- THE SECOND FORM's CARD OF 'docstoretop.EngineDocuments'. -/
def engineDocumentsUptoCard : Claim7 := { stood := { row := engineDocumentsUptoRow, standIns := [], harness := (true, "b7e24edde55c3e20046cd086e075334789364f701fff090ed86790966beb3ab8"), looks := true }, kinds := [], alts := [], laidByText := true, laidKinds := [.data, .pinned], laidTests := true, laidLooks := .later }
def EngineDocumentsUptoCardSaid : Prop := Claim7.holds Tryz.pinned (.plain (OpenSpec.upto engineDocumentsSpec)) engineDocumentsUptoCard
end Rows
end Go.Proofs.YtilopjlcgmedgaaGreatDoor
