/-
  NARROWER THAN 'FOR EVERY INPUT', by the rows' own cells (each row's printed sentence says how): WordsTokens: laid · WordsParse: laid · WordsFound: laid · WordsNarrow: laid · WordsCommon: laid · WordsLimit: laid · WordsJoined: laid.
  DERIVED. THE GIVEN ROWS OF THIS SEAT. 7 by the template 'for every input the law returns true; each argument reads behind the call as it read before'; 0 by the template 'total and deterministic' (their statements: YtjedhlgflocjoaaDoorTotals.lean).
  GIVEN WITH THE SEED: the statements are not yours to turn. If you find one false, say at which input.
  Laid BY PROGRAM, IN A SANDBOX (cutbox-rows.mjs): the forced cells as the released guide's own fill.sh prints them over the translation d680321ce3f72501… (all of the seat's roots in one cut). By AI agents, Wed Nov 11 2026. No macro, syntax, notation, axiom, sorry.
-/
import Derived.Test.YtjedhlgflocjoaaDoorChecked
import GoSem.PinnedTables
import GoSem.Claim
import GoSem.ClaimJoined
import GoSem.ClaimMapViews
import Derived.JoinedTies
import Derived.KernelRfl
namespace Go.Proofs.YtjedhlgflocjoaaDoor
/- THE CELL 'sum', in the pinned program and in every row, IS THE sha256 OF THE DUMP (.gsa) THAT YtjedhlgflocjoaaDoorProg.lean LOADS. Nothing in Lean hashes anything: it is a label: what it is worth is what the hold of that sum in a sandbox is worth. -/
noncomputable def Tryd.pinned : Pinned := { name := "ytjedhlgflocjoaadoor", sum := "d680321ce3f72501e9c46c459dbcbbca8581a2cd2cd9f971c5e280135a340d0c", checked := Tryd.checked }
namespace Rows
def none {H : Type} : Left H := { results := [], args := [] }

/- WHAT THE LISTED PACKAGE-LEVEL VARIABLES READ AS WHEN THE CALL BEGINS. Each datum BY PROGRAM (the guide's laid-datum.mjs) off the statement by which the dump's own 'gosem.cut.vars' lays the variable. In a bare row this is a premise. The card (YtjedhlgflocjoaaDoorCards.lean) ties it to the program's text. -/
def laid_docstore_docstoreref09_Stops {H : Type} : DataW H := .agg [.lit (.string [97]), .lit (.string [97, 110]), .lit (.string [97, 110, 100]), .lit (.string [97, 114, 101]), .lit (.string [97, 115]), .lit (.string [97, 116]), .lit (.string [98, 101]), .lit (.string [98, 121]), .lit (.string [102, 111, 114]), .lit (.string [102, 114, 111, 109]), .lit (.string [105, 110]), .lit (.string [105, 115]), .lit (.string [105, 116]), .lit (.string [111, 102]), .lit (.string [111, 110]), .lit (.string [111, 114]), .lit (.string [116, 104, 97, 116]), .lit (.string [116, 104, 101]), .lit (.string [116, 111]), .lit (.string [119, 105, 116, 104])]
def laid_unicode_utf8_acceptRanges {H : Type} : DataW H := .agg [.agg [.lit (.int .u8 128), .lit (.int .u8 191)], .agg [.lit (.int .u8 160), .lit (.int .u8 191)], .agg [.lit (.int .u8 128), .lit (.int .u8 159)], .agg [.lit (.int .u8 144), .lit (.int .u8 191)], .agg [.lit (.int .u8 128), .lit (.int .u8 143)], .agg [.lit (.int .u8 0), .lit (.int .u8 0)], .agg [.lit (.int .u8 0), .lit (.int .u8 0)], .agg [.lit (.int .u8 0), .lit (.int .u8 0)], .agg [.lit (.int .u8 0), .lit (.int .u8 0)], .agg [.lit (.int .u8 0), .lit (.int .u8 0)], .agg [.lit (.int .u8 0), .lit (.int .u8 0)], .agg [.lit (.int .u8 0), .lit (.int .u8 0)], .agg [.lit (.int .u8 0), .lit (.int .u8 0)], .agg [.lit (.int .u8 0), .lit (.int .u8 0)], .agg [.lit (.int .u8 0), .lit (.int .u8 0)], .agg [.lit (.int .u8 0), .lit (.int .u8 0)]]
/-- One of Go's own tables, pinned by name: the form's constant. -/
def laid_unicode_utf8_first : DataW Unit := Go.Pinned.utf8First

/-- 'docstorelaw09.WordsTokens': WHATEVER THE INPUT: true; the input reads as it did. -/
def wordsTokensSpec : ChangeSpec := { name := "wordsTokens", fn := fun _ => fun
  | [d] => { results := [.lit (.bool true)], args := [d] }
  | _ => none }
def wordsTokensRow : OpenClaim := { program := "ytjedhlgflocjoaadoor", sum := "d680321ce3f72501e9c46c459dbcbbca8581a2cd2cd9f971c5e280135a340d0c", func := "docstore/docstorelaw09.WordsTokens", spec := "wordsTokens", inPlace := ["internal/bytealg.CountString", "internal/bytealg.IndexByteString", "internal/bytealg.IndexString"], unfollowed := true, recurses := true, named := ["unicode/utf8.first", "unicode/utf8.acceptRanges", "internal/bytealg.MaxLen", "docstore/docstoreref09.Stops"], apart := false, laid := [("docstore/docstoreref09.Stops", laid_docstore_docstoreref09_Stops), ("unicode/utf8.acceptRanges", laid_unicode_utf8_acceptRanges), ("unicode/utf8.first", laid_unicode_utf8_first)] }
def WordsTokensSaid : Prop := wordsTokensRow.holds Tryd.pinned (OpenSpec.ofChange wordsTokensSpec)

/-- ITS FALSE NEIGHBOUR: 'it returns false'. Refute it at one input. -/
def wordsTokensWrong : ChangeSpec := { name := "wordsTokens", fn := fun _ => fun
  | [d] => { results := [.lit (.bool false)], args := [d] }
  | _ => none }
def WordsTokensWrongFalsely : Prop := wordsTokensRow.holds Tryd.pinned (OpenSpec.ofChange wordsTokensWrong)

/-- 'docstorelaw09.WordsParse': WHATEVER THE INPUT: true; the input reads as it did. -/
def wordsParseSpec : ChangeSpec := { name := "wordsParse", fn := fun _ => fun
  | [d] => { results := [.lit (.bool true)], args := [d] }
  | _ => none }
def wordsParseRow : OpenClaim := { program := "ytjedhlgflocjoaadoor", sum := "d680321ce3f72501e9c46c459dbcbbca8581a2cd2cd9f971c5e280135a340d0c", func := "docstore/docstorelaw09.WordsParse", spec := "wordsParse", inPlace := ["internal/bytealg.CountString", "internal/bytealg.IndexByteString", "internal/bytealg.IndexString"], unfollowed := true, recurses := true, named := ["unicode/utf8.first", "unicode/utf8.acceptRanges", "internal/bytealg.MaxLen", "docstore/docstoreref09.Stops"], apart := false, laid := [("docstore/docstoreref09.Stops", laid_docstore_docstoreref09_Stops), ("unicode/utf8.acceptRanges", laid_unicode_utf8_acceptRanges), ("unicode/utf8.first", laid_unicode_utf8_first)] }
def WordsParseSaid : Prop := wordsParseRow.holds Tryd.pinned (OpenSpec.ofChange wordsParseSpec)

/-- ITS FALSE NEIGHBOUR: 'it returns false'. Refute it at one input. -/
def wordsParseWrong : ChangeSpec := { name := "wordsParse", fn := fun _ => fun
  | [d] => { results := [.lit (.bool false)], args := [d] }
  | _ => none }
def WordsParseWrongFalsely : Prop := wordsParseRow.holds Tryd.pinned (OpenSpec.ofChange wordsParseWrong)

/-- 'docstorelaw09.WordsFound': WHATEVER THE INPUT: true; the input reads as it did. -/
def wordsFoundSpec : ChangeSpec := { name := "wordsFound", fn := fun _ => fun
  | [d1, d2] => { results := [.lit (.bool true)], args := [d1, d2] }
  | _ => none }
def wordsFoundRow : OpenClaim := { program := "ytjedhlgflocjoaadoor", sum := "d680321ce3f72501e9c46c459dbcbbca8581a2cd2cd9f971c5e280135a340d0c", func := "docstore/docstorelaw09.WordsFound", spec := "wordsFound", inPlace := ["internal/bytealg.CountString", "internal/bytealg.IndexByteString", "internal/bytealg.IndexString"], unfollowed := true, recurses := true, named := ["unicode/utf8.first", "unicode/utf8.acceptRanges", "internal/bytealg.MaxLen", "docstore/docstoreref09.Stops"], apart := false, laid := [("docstore/docstoreref09.Stops", laid_docstore_docstoreref09_Stops), ("unicode/utf8.acceptRanges", laid_unicode_utf8_acceptRanges), ("unicode/utf8.first", laid_unicode_utf8_first)] }
def WordsFoundSaid : Prop := wordsFoundRow.holds Tryd.pinned (OpenSpec.ofChange wordsFoundSpec)

/-- ITS FALSE NEIGHBOUR: 'it returns false'. Refute it at one input. -/
def wordsFoundWrong : ChangeSpec := { name := "wordsFound", fn := fun _ => fun
  | [d1, d2] => { results := [.lit (.bool false)], args := [d1, d2] }
  | _ => none }
def WordsFoundWrongFalsely : Prop := wordsFoundRow.holds Tryd.pinned (OpenSpec.ofChange wordsFoundWrong)

/-- 'docstorelaw09.WordsNarrow': WHATEVER THE INPUT: true; the input reads as it did. -/
def wordsNarrowSpec : ChangeSpec := { name := "wordsNarrow", fn := fun _ => fun
  | [d1, d2, d3] => { results := [.lit (.bool true)], args := [d1, d2, d3] }
  | _ => none }
def wordsNarrowRow : OpenClaim := { program := "ytjedhlgflocjoaadoor", sum := "d680321ce3f72501e9c46c459dbcbbca8581a2cd2cd9f971c5e280135a340d0c", func := "docstore/docstorelaw09.WordsNarrow", spec := "wordsNarrow", inPlace := ["internal/bytealg.CountString", "internal/bytealg.IndexByteString", "internal/bytealg.IndexString"], unfollowed := true, recurses := true, named := ["unicode/utf8.first", "unicode/utf8.acceptRanges", "internal/bytealg.MaxLen"], apart := false, laid := [("unicode/utf8.acceptRanges", laid_unicode_utf8_acceptRanges), ("unicode/utf8.first", laid_unicode_utf8_first)] }
def WordsNarrowSaid : Prop := wordsNarrowRow.holds Tryd.pinned (OpenSpec.ofChange wordsNarrowSpec)

/-- ITS FALSE NEIGHBOUR: 'it returns false'. Refute it at one input. -/
def wordsNarrowWrong : ChangeSpec := { name := "wordsNarrow", fn := fun _ => fun
  | [d1, d2, d3] => { results := [.lit (.bool false)], args := [d1, d2, d3] }
  | _ => none }
def WordsNarrowWrongFalsely : Prop := wordsNarrowRow.holds Tryd.pinned (OpenSpec.ofChange wordsNarrowWrong)

/-- 'docstorelaw09.WordsCommon': WHATEVER THE INPUT: true; the input reads as it did. -/
def wordsCommonSpec : ChangeSpec := { name := "wordsCommon", fn := fun _ => fun
  | [d1, d2] => { results := [.lit (.bool true)], args := [d1, d2] }
  | _ => none }
def wordsCommonRow : OpenClaim := { program := "ytjedhlgflocjoaadoor", sum := "d680321ce3f72501e9c46c459dbcbbca8581a2cd2cd9f971c5e280135a340d0c", func := "docstore/docstorelaw09.WordsCommon", spec := "wordsCommon", inPlace := ["internal/bytealg.CountString", "internal/bytealg.IndexByteString", "internal/bytealg.IndexString"], unfollowed := true, recurses := true, named := ["unicode/utf8.first", "unicode/utf8.acceptRanges", "internal/bytealg.MaxLen"], apart := false, laid := [("unicode/utf8.acceptRanges", laid_unicode_utf8_acceptRanges), ("unicode/utf8.first", laid_unicode_utf8_first)] }
def WordsCommonSaid : Prop := wordsCommonRow.holds Tryd.pinned (OpenSpec.ofChange wordsCommonSpec)

/-- ITS FALSE NEIGHBOUR: 'it returns false'. Refute it at one input. -/
def wordsCommonWrong : ChangeSpec := { name := "wordsCommon", fn := fun _ => fun
  | [d1, d2] => { results := [.lit (.bool false)], args := [d1, d2] }
  | _ => none }
def WordsCommonWrongFalsely : Prop := wordsCommonRow.holds Tryd.pinned (OpenSpec.ofChange wordsCommonWrong)

/-- 'docstorelaw09.WordsLimit': WHATEVER THE INPUT: true; the input reads as it did. -/
def wordsLimitSpec : ChangeSpec := { name := "wordsLimit", fn := fun _ => fun
  | [d] => { results := [.lit (.bool true)], args := [d] }
  | _ => none }
def wordsLimitRow : OpenClaim := { program := "ytjedhlgflocjoaadoor", sum := "d680321ce3f72501e9c46c459dbcbbca8581a2cd2cd9f971c5e280135a340d0c", func := "docstore/docstorelaw09.WordsLimit", spec := "wordsLimit", inPlace := ["internal/bytealg.CountString", "internal/bytealg.IndexByteString", "internal/bytealg.IndexString"], unfollowed := true, recurses := true, named := ["unicode/utf8.first", "unicode/utf8.acceptRanges", "internal/bytealg.MaxLen"], apart := false, laid := [("unicode/utf8.acceptRanges", laid_unicode_utf8_acceptRanges), ("unicode/utf8.first", laid_unicode_utf8_first)] }
def WordsLimitSaid : Prop := wordsLimitRow.holds Tryd.pinned (OpenSpec.ofChange wordsLimitSpec)

/-- ITS FALSE NEIGHBOUR: 'it returns false'. Refute it at one input. -/
def wordsLimitWrong : ChangeSpec := { name := "wordsLimit", fn := fun _ => fun
  | [d] => { results := [.lit (.bool false)], args := [d] }
  | _ => none }
def WordsLimitWrongFalsely : Prop := wordsLimitRow.holds Tryd.pinned (OpenSpec.ofChange wordsLimitWrong)

/-- 'docstorelaw09.WordsJoined': WHATEVER THE INPUT: true; the input reads as it did. -/
def wordsJoinedSpec : ChangeSpec := { name := "wordsJoined", fn := fun _ => fun
  | [d1, d2] => { results := [.lit (.bool true)], args := [d1, d2] }
  | _ => none }
def wordsJoinedRow : OpenClaim := { program := "ytjedhlgflocjoaadoor", sum := "d680321ce3f72501e9c46c459dbcbbca8581a2cd2cd9f971c5e280135a340d0c", func := "docstore/docstorelaw09.WordsJoined", spec := "wordsJoined", inPlace := ["internal/bytealg.CountString", "internal/bytealg.IndexByteString", "internal/bytealg.IndexString"], unfollowed := true, recurses := true, named := ["unicode/utf8.first", "unicode/utf8.acceptRanges", "internal/bytealg.MaxLen"], apart := false, laid := [("unicode/utf8.acceptRanges", laid_unicode_utf8_acceptRanges), ("unicode/utf8.first", laid_unicode_utf8_first)] }
def WordsJoinedSaid : Prop := wordsJoinedRow.holds Tryd.pinned (OpenSpec.ofChange wordsJoinedSpec)

/-- ITS FALSE NEIGHBOUR: 'it returns false'. Refute it at one input. -/
def wordsJoinedWrong : ChangeSpec := { name := "wordsJoined", fn := fun _ => fun
  | [d1, d2] => { results := [.lit (.bool false)], args := [d1, d2] }
  | _ => none }
def WordsJoinedWrongFalsely : Prop := wordsJoinedRow.holds Tryd.pinned (OpenSpec.ofChange wordsJoinedWrong)

/- THE SECOND FORM. 'bulk': how many values and letters a reading holds, each counted each time it is reached (what is shared counts as often as it is met; a slice's spare places count too). A statement '..UptoSaid' is the law's where the arguments, and the package variables that the reading takes, are together of bulk at most 1048576: NARROWER than '..Said'. Prove '..Said' where nothing that the law and all that it calls make is longer than what came in: it says more and counts as full. Else prove '..UptoSaid'. A law counts once. -/
mutual
def uptoBulk {H : Type} : DataW H → Nat
  | .lit (.string bytes) => bytes.length + 1
  | .lit _ => 1
  | .nil => 1
  | .ptr d => uptoBulk d + 1
  | .slice elems spare => uptoBulkAll elems + uptoBulkAll spare + 1
  | .agg parts => uptoBulkAll parts + 1
  | .iface _ d => uptoBulk d + 1
  | .map entries => uptoBulkEntries entries + 1
  | .held _ => 1
def uptoBulkAll {H : Type} : List (DataW H) → Nat
  | [] => 0
  | d :: r => uptoBulk d + uptoBulkAll r
def uptoBulkEntries {H : Type} : List (Lit × DataW H) → Nat
  | [] => 0
  | x :: r => uptoBulkEntry x + uptoBulkEntries r
def uptoBulkEntry {H : Type} : Lit × DataW H → Nat
  | (.string bytes, d) => bytes.length + uptoBulk d + 1
  | (_, d) => uptoBulk d + 1
 end
def uptoSmall : (H : Type) → List (DataW H) → Bool := fun _ ds => decide (uptoBulkAll ds ≤ 1048576)
def OpenSpec.upto (s : _root_.Go.ChangeSpec) : _root_.Go.OpenSpec := { _root_.Go.OpenSpec.ofChange s with cond := some uptoSmall }

/-- 'docstorelaw09.WordsTokens', WHERE WHAT IT READS IS OF BULK AT MOST 1048576: true; the input reads as it did. -/
def wordsTokensUptoRow : OpenClaim := { program := "ytjedhlgflocjoaadoor", sum := "d680321ce3f72501e9c46c459dbcbbca8581a2cd2cd9f971c5e280135a340d0c", func := "docstore/docstorelaw09.WordsTokens", spec := "wordsTokens", inPlace := ["internal/bytealg.CountString", "internal/bytealg.IndexByteString", "internal/bytealg.IndexString"], unfollowed := true, recurses := true, named := ["unicode/utf8.first", "unicode/utf8.acceptRanges", "internal/bytealg.MaxLen", "docstore/docstoreref09.Stops"], apart := false, laid := [("docstore/docstoreref09.Stops", laid_docstore_docstoreref09_Stops), ("unicode/utf8.acceptRanges", laid_unicode_utf8_acceptRanges), ("unicode/utf8.first", laid_unicode_utf8_first)], narrowed := true }
def WordsTokensUptoSaid : Prop := wordsTokensUptoRow.holds Tryd.pinned (OpenSpec.upto wordsTokensSpec)

/-- 'docstorelaw09.WordsParse', WHERE WHAT IT READS IS OF BULK AT MOST 1048576: true; the input reads as it did. -/
def wordsParseUptoRow : OpenClaim := { program := "ytjedhlgflocjoaadoor", sum := "d680321ce3f72501e9c46c459dbcbbca8581a2cd2cd9f971c5e280135a340d0c", func := "docstore/docstorelaw09.WordsParse", spec := "wordsParse", inPlace := ["internal/bytealg.CountString", "internal/bytealg.IndexByteString", "internal/bytealg.IndexString"], unfollowed := true, recurses := true, named := ["unicode/utf8.first", "unicode/utf8.acceptRanges", "internal/bytealg.MaxLen", "docstore/docstoreref09.Stops"], apart := false, laid := [("docstore/docstoreref09.Stops", laid_docstore_docstoreref09_Stops), ("unicode/utf8.acceptRanges", laid_unicode_utf8_acceptRanges), ("unicode/utf8.first", laid_unicode_utf8_first)], narrowed := true }
def WordsParseUptoSaid : Prop := wordsParseUptoRow.holds Tryd.pinned (OpenSpec.upto wordsParseSpec)

/-- 'docstorelaw09.WordsFound', WHERE WHAT IT READS IS OF BULK AT MOST 1048576: true; the input reads as it did. -/
def wordsFoundUptoRow : OpenClaim := { program := "ytjedhlgflocjoaadoor", sum := "d680321ce3f72501e9c46c459dbcbbca8581a2cd2cd9f971c5e280135a340d0c", func := "docstore/docstorelaw09.WordsFound", spec := "wordsFound", inPlace := ["internal/bytealg.CountString", "internal/bytealg.IndexByteString", "internal/bytealg.IndexString"], unfollowed := true, recurses := true, named := ["unicode/utf8.first", "unicode/utf8.acceptRanges", "internal/bytealg.MaxLen", "docstore/docstoreref09.Stops"], apart := false, laid := [("docstore/docstoreref09.Stops", laid_docstore_docstoreref09_Stops), ("unicode/utf8.acceptRanges", laid_unicode_utf8_acceptRanges), ("unicode/utf8.first", laid_unicode_utf8_first)], narrowed := true }
def WordsFoundUptoSaid : Prop := wordsFoundUptoRow.holds Tryd.pinned (OpenSpec.upto wordsFoundSpec)

/-- 'docstorelaw09.WordsNarrow', WHERE WHAT IT READS IS OF BULK AT MOST 1048576: true; the input reads as it did. -/
def wordsNarrowUptoRow : OpenClaim := { program := "ytjedhlgflocjoaadoor", sum := "d680321ce3f72501e9c46c459dbcbbca8581a2cd2cd9f971c5e280135a340d0c", func := "docstore/docstorelaw09.WordsNarrow", spec := "wordsNarrow", inPlace := ["internal/bytealg.CountString", "internal/bytealg.IndexByteString", "internal/bytealg.IndexString"], unfollowed := true, recurses := true, named := ["unicode/utf8.first", "unicode/utf8.acceptRanges", "internal/bytealg.MaxLen"], apart := false, laid := [("unicode/utf8.acceptRanges", laid_unicode_utf8_acceptRanges), ("unicode/utf8.first", laid_unicode_utf8_first)], narrowed := true }
def WordsNarrowUptoSaid : Prop := wordsNarrowUptoRow.holds Tryd.pinned (OpenSpec.upto wordsNarrowSpec)

/-- 'docstorelaw09.WordsCommon', WHERE WHAT IT READS IS OF BULK AT MOST 1048576: true; the input reads as it did. -/
def wordsCommonUptoRow : OpenClaim := { program := "ytjedhlgflocjoaadoor", sum := "d680321ce3f72501e9c46c459dbcbbca8581a2cd2cd9f971c5e280135a340d0c", func := "docstore/docstorelaw09.WordsCommon", spec := "wordsCommon", inPlace := ["internal/bytealg.CountString", "internal/bytealg.IndexByteString", "internal/bytealg.IndexString"], unfollowed := true, recurses := true, named := ["unicode/utf8.first", "unicode/utf8.acceptRanges", "internal/bytealg.MaxLen"], apart := false, laid := [("unicode/utf8.acceptRanges", laid_unicode_utf8_acceptRanges), ("unicode/utf8.first", laid_unicode_utf8_first)], narrowed := true }
def WordsCommonUptoSaid : Prop := wordsCommonUptoRow.holds Tryd.pinned (OpenSpec.upto wordsCommonSpec)

/-- 'docstorelaw09.WordsLimit', WHERE WHAT IT READS IS OF BULK AT MOST 1048576: true; the input reads as it did. -/
def wordsLimitUptoRow : OpenClaim := { program := "ytjedhlgflocjoaadoor", sum := "d680321ce3f72501e9c46c459dbcbbca8581a2cd2cd9f971c5e280135a340d0c", func := "docstore/docstorelaw09.WordsLimit", spec := "wordsLimit", inPlace := ["internal/bytealg.CountString", "internal/bytealg.IndexByteString", "internal/bytealg.IndexString"], unfollowed := true, recurses := true, named := ["unicode/utf8.first", "unicode/utf8.acceptRanges", "internal/bytealg.MaxLen"], apart := false, laid := [("unicode/utf8.acceptRanges", laid_unicode_utf8_acceptRanges), ("unicode/utf8.first", laid_unicode_utf8_first)], narrowed := true }
def WordsLimitUptoSaid : Prop := wordsLimitUptoRow.holds Tryd.pinned (OpenSpec.upto wordsLimitSpec)

/-- 'docstorelaw09.WordsJoined', WHERE WHAT IT READS IS OF BULK AT MOST 1048576: true; the input reads as it did. -/
def wordsJoinedUptoRow : OpenClaim := { program := "ytjedhlgflocjoaadoor", sum := "d680321ce3f72501e9c46c459dbcbbca8581a2cd2cd9f971c5e280135a340d0c", func := "docstore/docstorelaw09.WordsJoined", spec := "wordsJoined", inPlace := ["internal/bytealg.CountString", "internal/bytealg.IndexByteString", "internal/bytealg.IndexString"], unfollowed := true, recurses := true, named := ["unicode/utf8.first", "unicode/utf8.acceptRanges", "internal/bytealg.MaxLen"], apart := false, laid := [("unicode/utf8.acceptRanges", laid_unicode_utf8_acceptRanges), ("unicode/utf8.first", laid_unicode_utf8_first)], narrowed := true }
def WordsJoinedUptoSaid : Prop := wordsJoinedUptoRow.holds Tryd.pinned (OpenSpec.upto wordsJoinedSpec)

end Rows
end Go.Proofs.YtjedhlgflocjoaaDoor
