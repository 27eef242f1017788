/-
  DERIVED. GIVEN WITH THE SEED: THE CARDS: each row of YtjedhlgflocjoaaDoorRows.lean that lists a variable, with what it lists TIED to the program's text (the seventh form; the later family's looks); each row that meets fmt, with fmt's text TOLD by the authors' own Lean function (tested against real Go, not proved from fmt's source: count such statements apart). THE CARD IS WHAT COUNTS. Prove the row's statement (the work); the ties are given (YtjedhlgflocjoaaDoorTie.lean); close each card by the builder's one call (the guide's Derived/Test/ToyasCard.lean, 'card_holds'). Laid BY PROGRAM, IN A SANDBOX (cutbox-door.mjs). By AI agents, Wed Nov 11 2026. No macro, syntax, notation, axiom, sorry.
-/
import Derived.Test.YtjedhlgflocjoaaDoorRows
import GoSem.ClaimSeven
namespace Go.Proofs.YtjedhlgflocjoaaDoor
namespace Rows

/-- THE TIED CARD OF 'docstorelaw09.WordsTokens'. -/
def wordsTokensCard : Claim7 := { stood := { row := wordsTokensRow, standIns := [], harness := (true, "8ec41b40468c8aeee9d5974a629d828b59a04301ba72559b85123dae836881aa"), looks := false }, kinds := [], alts := [], laidByText := true, laidKinds := [.data, .data, .pinned], laidTests := true, laidLooks := .later }
def WordsTokensCardSaid : Prop := Claim7.holds Tryd.pinned (.plain (OpenSpec.ofChange wordsTokensSpec)) wordsTokensCard

/-- THE TIED CARD OF 'docstorelaw09.WordsParse'. -/
def wordsParseCard : Claim7 := { stood := { row := wordsParseRow, standIns := [], harness := (true, "8ec41b40468c8aeee9d5974a629d828b59a04301ba72559b85123dae836881aa"), looks := false }, kinds := [], alts := [], laidByText := true, laidKinds := [.data, .data, .pinned], laidTests := true, laidLooks := .later }
def WordsParseCardSaid : Prop := Claim7.holds Tryd.pinned (.plain (OpenSpec.ofChange wordsParseSpec)) wordsParseCard

/-- THE TIED CARD OF 'docstorelaw09.WordsFound'. -/
def wordsFoundCard : Claim7 := { stood := { row := wordsFoundRow, standIns := [], harness := (true, "8ec41b40468c8aeee9d5974a629d828b59a04301ba72559b85123dae836881aa"), looks := false }, kinds := [], alts := [], laidByText := true, laidKinds := [.data, .data, .pinned], laidTests := true, laidLooks := .later }
def WordsFoundCardSaid : Prop := Claim7.holds Tryd.pinned (.plain (OpenSpec.ofChange wordsFoundSpec)) wordsFoundCard

/-- THE TIED CARD OF 'docstorelaw09.WordsNarrow'. -/
def wordsNarrowCard : Claim7 := { stood := { row := wordsNarrowRow, standIns := [], harness := (true, "8ec41b40468c8aeee9d5974a629d828b59a04301ba72559b85123dae836881aa"), looks := false }, kinds := [], alts := [], laidByText := true, laidKinds := [.data, .pinned], laidTests := true, laidLooks := .later }
def WordsNarrowCardSaid : Prop := Claim7.holds Tryd.pinned (.plain (OpenSpec.ofChange wordsNarrowSpec)) wordsNarrowCard

/-- THE TIED CARD OF 'docstorelaw09.WordsCommon'. -/
def wordsCommonCard : Claim7 := { stood := { row := wordsCommonRow, standIns := [], harness := (true, "8ec41b40468c8aeee9d5974a629d828b59a04301ba72559b85123dae836881aa"), looks := false }, kinds := [], alts := [], laidByText := true, laidKinds := [.data, .pinned], laidTests := true, laidLooks := .later }
def WordsCommonCardSaid : Prop := Claim7.holds Tryd.pinned (.plain (OpenSpec.ofChange wordsCommonSpec)) wordsCommonCard

/-- THE TIED CARD OF 'docstorelaw09.WordsLimit'. -/
def wordsLimitCard : Claim7 := { stood := { row := wordsLimitRow, standIns := [], harness := (true, "8ec41b40468c8aeee9d5974a629d828b59a04301ba72559b85123dae836881aa"), looks := false }, kinds := [], alts := [], laidByText := true, laidKinds := [.data, .pinned], laidTests := true, laidLooks := .later }
def WordsLimitCardSaid : Prop := Claim7.holds Tryd.pinned (.plain (OpenSpec.ofChange wordsLimitSpec)) wordsLimitCard

/-- THE TIED CARD OF 'docstorelaw09.WordsJoined'. -/
def wordsJoinedCard : Claim7 := { stood := { row := wordsJoinedRow, standIns := [], harness := (true, "8ec41b40468c8aeee9d5974a629d828b59a04301ba72559b85123dae836881aa"), looks := false }, kinds := [], alts := [], laidByText := true, laidKinds := [.data, .pinned], laidTests := true, laidLooks := .later }
def WordsJoinedCardSaid : Prop := Claim7.holds Tryd.pinned (.plain (OpenSpec.ofChange wordsJoinedSpec)) wordsJoinedCard

/-- THE SECOND FORM's CARD OF 'docstorelaw09.WordsTokens'. -/
def wordsTokensUptoCard : Claim7 := { stood := { row := wordsTokensUptoRow, standIns := [], harness := (true, "8ec41b40468c8aeee9d5974a629d828b59a04301ba72559b85123dae836881aa"), looks := false }, kinds := [], alts := [], laidByText := true, laidKinds := [.data, .data, .pinned], laidTests := true, laidLooks := .later }
def WordsTokensUptoCardSaid : Prop := Claim7.holds Tryd.pinned (.plain (OpenSpec.upto wordsTokensSpec)) wordsTokensUptoCard

/-- THE SECOND FORM's CARD OF 'docstorelaw09.WordsParse'. -/
def wordsParseUptoCard : Claim7 := { stood := { row := wordsParseUptoRow, standIns := [], harness := (true, "8ec41b40468c8aeee9d5974a629d828b59a04301ba72559b85123dae836881aa"), looks := false }, kinds := [], alts := [], laidByText := true, laidKinds := [.data, .data, .pinned], laidTests := true, laidLooks := .later }
def WordsParseUptoCardSaid : Prop := Claim7.holds Tryd.pinned (.plain (OpenSpec.upto wordsParseSpec)) wordsParseUptoCard

/-- THE SECOND FORM's CARD OF 'docstorelaw09.WordsFound'. -/
def wordsFoundUptoCard : Claim7 := { stood := { row := wordsFoundUptoRow, standIns := [], harness := (true, "8ec41b40468c8aeee9d5974a629d828b59a04301ba72559b85123dae836881aa"), looks := false }, kinds := [], alts := [], laidByText := true, laidKinds := [.data, .data, .pinned], laidTests := true, laidLooks := .later }
def WordsFoundUptoCardSaid : Prop := Claim7.holds Tryd.pinned (.plain (OpenSpec.upto wordsFoundSpec)) wordsFoundUptoCard

/-- THE SECOND FORM's CARD OF 'docstorelaw09.WordsNarrow'. -/
def wordsNarrowUptoCard : Claim7 := { stood := { row := wordsNarrowUptoRow, standIns := [], harness := (true, "8ec41b40468c8aeee9d5974a629d828b59a04301ba72559b85123dae836881aa"), looks := false }, kinds := [], alts := [], laidByText := true, laidKinds := [.data, .pinned], laidTests := true, laidLooks := .later }
def WordsNarrowUptoCardSaid : Prop := Claim7.holds Tryd.pinned (.plain (OpenSpec.upto wordsNarrowSpec)) wordsNarrowUptoCard

/-- THE SECOND FORM's CARD OF 'docstorelaw09.WordsCommon'. -/
def wordsCommonUptoCard : Claim7 := { stood := { row := wordsCommonUptoRow, standIns := [], harness := (true, "8ec41b40468c8aeee9d5974a629d828b59a04301ba72559b85123dae836881aa"), looks := false }, kinds := [], alts := [], laidByText := true, laidKinds := [.data, .pinned], laidTests := true, laidLooks := .later }
def WordsCommonUptoCardSaid : Prop := Claim7.holds Tryd.pinned (.plain (OpenSpec.upto wordsCommonSpec)) wordsCommonUptoCard

/-- THE SECOND FORM's CARD OF 'docstorelaw09.WordsLimit'. -/
def wordsLimitUptoCard : Claim7 := { stood := { row := wordsLimitUptoRow, standIns := [], harness := (true, "8ec41b40468c8aeee9d5974a629d828b59a04301ba72559b85123dae836881aa"), looks := false }, kinds := [], alts := [], laidByText := true, laidKinds := [.data, .pinned], laidTests := true, laidLooks := .later }
def WordsLimitUptoCardSaid : Prop := Claim7.holds Tryd.pinned (.plain (OpenSpec.upto wordsLimitSpec)) wordsLimitUptoCard

/-- THE SECOND FORM's CARD OF 'docstorelaw09.WordsJoined'. -/
def wordsJoinedUptoCard : Claim7 := { stood := { row := wordsJoinedUptoRow, standIns := [], harness := (true, "8ec41b40468c8aeee9d5974a629d828b59a04301ba72559b85123dae836881aa"), looks := false }, kinds := [], alts := [], laidByText := true, laidKinds := [.data, .pinned], laidTests := true, laidLooks := .later }
def WordsJoinedUptoCardSaid : Prop := Claim7.holds Tryd.pinned (.plain (OpenSpec.upto wordsJoinedSpec)) wordsJoinedUptoCard
end Rows
end Go.Proofs.YtjedhlgflocjoaaDoor
