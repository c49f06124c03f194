/-
  DERIVED. GIVEN WITH THE SEED: THE CARDS: each row of YtjnkgblcfoblcaaDoorRows.lean that lists a variable, with what it lists TIED to the program's text (the seventh form; the later family's looks); each row that meets fmt, with fmt's text TOLD by the authors' own Lean function (tested against real Go, not proved from fmt's source: count such statements apart). THE CARD IS WHAT COUNTS. Prove the row's statement (the work); the ties are given (YtjnkgblcfoblcaaDoorTie.lean); close each card by the builder's one call (the guide's Derived/Test/ToyasCard.lean, 'card_holds'). Laid BY PROGRAM, IN A SANDBOX (cutbox-door.mjs). By AI agents, Wed Nov 11 2026. No macro, syntax, notation, axiom, sorry.
-/
import Derived.Test.YtjnkgblcfoblcaaDoorRows
import GoSem.ClaimSeven
namespace Go.Proofs.YtjnkgblcfoblcaaDoor
namespace Rows

/-- THE TIED CARD OF 'crierlaw21.WordsWrite'. -/
def wordsWriteCard : Claim7 := { stood := { row := wordsWriteRow, standIns := [], harness := (true, "5a891c904e29c77b65e044aa0812c49ea95c961d7f0b22d9fbc0ae56def980c8"), looks := true }, kinds := [], alts := [], laidByText := true, laidKinds := [.data, .data, .data, .sentinel, .sentinel], laidTests := true, laidLooks := .later }
def WordsWriteCardSaid : Prop := Claim7.holds Tryd.pinned (.plain (OpenSpec.ofChange wordsWriteSpec)) wordsWriteCard

/-- THE TIED CARD OF 'crierlaw21.WordsRead'. -/
def wordsReadCard : Claim7 := { stood := { row := wordsReadRow, standIns := [], harness := (true, "5a891c904e29c77b65e044aa0812c49ea95c961d7f0b22d9fbc0ae56def980c8"), looks := true }, kinds := [], alts := [], laidByText := true, laidKinds := [.data, .data, .data, .data, .sentinel, .sentinel, .pinned], laidTests := true, laidLooks := .later }
def WordsReadCardSaid : Prop := Claim7.holds Tryd.pinned (.plain (OpenSpec.ofChange wordsReadSpec)) wordsReadCard

/-- THE TIED CARD OF 'crierlaw21.WordsBytes'. -/
def wordsBytesCard : Claim7 := { stood := { row := wordsBytesRow, standIns := [], harness := (true, "5a891c904e29c77b65e044aa0812c49ea95c961d7f0b22d9fbc0ae56def980c8"), looks := true }, kinds := [], alts := [], laidByText := true, laidKinds := [.data, .data, .data, .data, .sentinel, .sentinel, .pinned], laidTests := true, laidLooks := .later }
def WordsBytesCardSaid : Prop := Claim7.holds Tryd.pinned (.plain (OpenSpec.ofChange wordsBytesSpec)) wordsBytesCard

/-- THE TIED CARD OF 'crierlaw21.WordsBack'. -/
def wordsBackCard : Claim7 := { stood := { row := wordsBackRow, standIns := [], harness := (true, "5a891c904e29c77b65e044aa0812c49ea95c961d7f0b22d9fbc0ae56def980c8"), looks := true }, kinds := [], alts := [], laidByText := true, laidKinds := [.data, .data, .data, .data, .sentinel, .sentinel, .pinned], laidTests := true, laidLooks := .later }
def WordsBackCardSaid : Prop := Claim7.holds Tryd.pinned (.plain (OpenSpec.ofChange wordsBackSpec)) wordsBackCard

/-- THE TIED CARD OF 'crierlaw21.WordsOne'. -/
def wordsOneCard : Claim7 := { stood := { row := wordsOneRow, standIns := [], harness := (true, "5a891c904e29c77b65e044aa0812c49ea95c961d7f0b22d9fbc0ae56def980c8"), looks := true }, kinds := [], alts := [], laidByText := true, laidKinds := [.data, .data, .data, .data, .sentinel, .sentinel, .pinned], laidTests := true, laidLooks := .later }
def WordsOneCardSaid : Prop := Claim7.holds Tryd.pinned (.plain (OpenSpec.ofChange wordsOneSpec)) wordsOneCard

/-- THE TIED CARD OF 'crierlaw21.WordsData'. -/
def wordsDataCard : Claim7 := { stood := { row := wordsDataRow, standIns := [], harness := (true, "5a891c904e29c77b65e044aa0812c49ea95c961d7f0b22d9fbc0ae56def980c8"), looks := true }, kinds := [], alts := [], laidByText := true, laidKinds := [.data, .data, .data, .data, .sentinel, .sentinel, .pinned], laidTests := true, laidLooks := .later }
def WordsDataCardSaid : Prop := Claim7.holds Tryd.pinned (.plain (OpenSpec.ofChange wordsDataSpec)) wordsDataCard

/-- THE TIED CARD OF 'crierlaw21.WordsKnown'. -/
def wordsKnownCard : Claim7 := { stood := { row := wordsKnownRow, standIns := [], harness := (true, "5a891c904e29c77b65e044aa0812c49ea95c961d7f0b22d9fbc0ae56def980c8"), looks := true }, kinds := [], alts := [], laidByText := true, laidKinds := [.data, .data, .data, .data, .sentinel, .sentinel, .pinned], laidTests := true, laidLooks := .later }
def WordsKnownCardSaid : Prop := Claim7.holds Tryd.pinned (.plain (OpenSpec.ofChange wordsKnownSpec)) wordsKnownCard

/-- THE SECOND FORM's CARD OF 'crierlaw21.WordsWrite'. -/
def wordsWriteUptoCard : Claim7 := { stood := { row := wordsWriteUptoRow, standIns := [], harness := (true, "5a891c904e29c77b65e044aa0812c49ea95c961d7f0b22d9fbc0ae56def980c8"), looks := true }, kinds := [], alts := [], laidByText := true, laidKinds := [.data, .data, .data, .sentinel, .sentinel], laidTests := true, laidLooks := .later }
def WordsWriteUptoCardSaid : Prop := Claim7.holds Tryd.pinned (.plain (OpenSpec.upto wordsWriteSpec)) wordsWriteUptoCard

/-- THE SECOND FORM's CARD OF 'crierlaw21.WordsRead'. -/
def wordsReadUptoCard : Claim7 := { stood := { row := wordsReadUptoRow, standIns := [], harness := (true, "5a891c904e29c77b65e044aa0812c49ea95c961d7f0b22d9fbc0ae56def980c8"), looks := true }, kinds := [], alts := [], laidByText := true, laidKinds := [.data, .data, .data, .data, .sentinel, .sentinel, .pinned], laidTests := true, laidLooks := .later }
def WordsReadUptoCardSaid : Prop := Claim7.holds Tryd.pinned (.plain (OpenSpec.upto wordsReadSpec)) wordsReadUptoCard

/-- THE SECOND FORM's CARD OF 'crierlaw21.WordsBytes'. -/
def wordsBytesUptoCard : Claim7 := { stood := { row := wordsBytesUptoRow, standIns := [], harness := (true, "5a891c904e29c77b65e044aa0812c49ea95c961d7f0b22d9fbc0ae56def980c8"), looks := true }, kinds := [], alts := [], laidByText := true, laidKinds := [.data, .data, .data, .data, .sentinel, .sentinel, .pinned], laidTests := true, laidLooks := .later }
def WordsBytesUptoCardSaid : Prop := Claim7.holds Tryd.pinned (.plain (OpenSpec.upto wordsBytesSpec)) wordsBytesUptoCard

/-- THE SECOND FORM's CARD OF 'crierlaw21.WordsBack'. -/
def wordsBackUptoCard : Claim7 := { stood := { row := wordsBackUptoRow, standIns := [], harness := (true, "5a891c904e29c77b65e044aa0812c49ea95c961d7f0b22d9fbc0ae56def980c8"), looks := true }, kinds := [], alts := [], laidByText := true, laidKinds := [.data, .data, .data, .data, .sentinel, .sentinel, .pinned], laidTests := true, laidLooks := .later }
def WordsBackUptoCardSaid : Prop := Claim7.holds Tryd.pinned (.plain (OpenSpec.upto wordsBackSpec)) wordsBackUptoCard

/-- THE SECOND FORM's CARD OF 'crierlaw21.WordsOne'. -/
def wordsOneUptoCard : Claim7 := { stood := { row := wordsOneUptoRow, standIns := [], harness := (true, "5a891c904e29c77b65e044aa0812c49ea95c961d7f0b22d9fbc0ae56def980c8"), looks := true }, kinds := [], alts := [], laidByText := true, laidKinds := [.data, .data, .data, .data, .sentinel, .sentinel, .pinned], laidTests := true, laidLooks := .later }
def WordsOneUptoCardSaid : Prop := Claim7.holds Tryd.pinned (.plain (OpenSpec.upto wordsOneSpec)) wordsOneUptoCard

/-- THE SECOND FORM's CARD OF 'crierlaw21.WordsData'. -/
def wordsDataUptoCard : Claim7 := { stood := { row := wordsDataUptoRow, standIns := [], harness := (true, "5a891c904e29c77b65e044aa0812c49ea95c961d7f0b22d9fbc0ae56def980c8"), looks := true }, kinds := [], alts := [], laidByText := true, laidKinds := [.data, .data, .data, .data, .sentinel, .sentinel, .pinned], laidTests := true, laidLooks := .later }
def WordsDataUptoCardSaid : Prop := Claim7.holds Tryd.pinned (.plain (OpenSpec.upto wordsDataSpec)) wordsDataUptoCard

/-- THE SECOND FORM's CARD OF 'crierlaw21.WordsKnown'. -/
def wordsKnownUptoCard : Claim7 := { stood := { row := wordsKnownUptoRow, standIns := [], harness := (true, "5a891c904e29c77b65e044aa0812c49ea95c961d7f0b22d9fbc0ae56def980c8"), looks := true }, kinds := [], alts := [], laidByText := true, laidKinds := [.data, .data, .data, .data, .sentinel, .sentinel, .pinned], laidTests := true, laidLooks := .later }
def WordsKnownUptoCardSaid : Prop := Claim7.holds Tryd.pinned (.plain (OpenSpec.upto wordsKnownSpec)) wordsKnownUptoCard
end Rows
end Go.Proofs.YtjnkgblcfoblcaaDoor
