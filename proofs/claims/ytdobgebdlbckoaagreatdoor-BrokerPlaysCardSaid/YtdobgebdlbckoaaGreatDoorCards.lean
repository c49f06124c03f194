/-
  DERIVED. GIVEN WITH THE SEED: THE CARDS: each row of YtdobgebdlbckoaaGreatDoorRows.lean that lists a variable, with what it lists TIED to the program's text (the seventh form; the later family's looks); each row that meets fmt, with fmt's text TOLD by the authors' own Lean function (tested against real Go, not proved from fmt's source: count such statements apart). THE CARD IS WHAT COUNTS. Prove the row's statement (the work); the ties are given (YtdobgebdlbckoaaGreatDoorTie.lean); close each card by the builder's one call (the guide's Derived/Test/ToyasCard.lean, 'card_holds'). Laid BY PROGRAM, IN A SANDBOX (cutbox-door.mjs). By AI agents, Wed Nov 11 2026. No macro, syntax, notation, axiom, sorry.
-/
import Derived.Test.YtdobgebdlbckoaaGreatDoorRows
import GoSem.ClaimSeven
namespace Go.Proofs.YtdobgebdlbckoaaGreatDoor
namespace Rows

/-- THE TIED CARD OF 'crierlaw24.BrokerLeft'. -/
def brokerLeftCard : Claim7 := { stood := { row := brokerLeftRow, standIns := [], harness := (true, "eb0cf306507bcfc7ba8c186a5cf823a11a8a080634520a1a069b5975069773b6"), looks := true }, kinds := [], alts := [], laidByText := true, laidKinds := [.data, .data, .data], laidTests := true, laidLooks := .later }
def BrokerLeftCardSaid : Prop := Claim7.holds Tryz.pinned (.plain (OpenSpec.ofChange brokerLeftSpec)) brokerLeftCard

/-- THE TIED CARD OF 'crierlaw24.BrokerPlays'. -/
def brokerPlaysCard : Claim7 := { stood := { row := brokerPlaysRow, standIns := [], harness := (true, "eb0cf306507bcfc7ba8c186a5cf823a11a8a080634520a1a069b5975069773b6"), looks := true }, kinds := [], alts := [], laidByText := true, laidKinds := [.data, .data, .data], laidTests := true, laidLooks := .later }
def BrokerPlaysCardSaid : Prop := Claim7.holds Tryz.pinned (.plain (OpenSpec.ofChange brokerPlaysSpec)) brokerPlaysCard

/-- THE TIED CARD OF 'crierlaw24.BrokerNobody'. -/
def brokerNobodyCard : Claim7 := { stood := { row := brokerNobodyRow, standIns := [], harness := (true, "eb0cf306507bcfc7ba8c186a5cf823a11a8a080634520a1a069b5975069773b6"), looks := true }, kinds := [], alts := [], laidByText := true, laidKinds := [.data, .data, .data], laidTests := true, laidLooks := .later }
def BrokerNobodyCardSaid : Prop := Claim7.holds Tryz.pinned (.plain (OpenSpec.ofChange brokerNobodySpec)) brokerNobodyCard

/-- THE TIED CARD OF 'crierlaw24.BrokerKnown'. -/
def brokerKnownCard : Claim7 := { stood := { row := brokerKnownRow, standIns := [], harness := (true, "eb0cf306507bcfc7ba8c186a5cf823a11a8a080634520a1a069b5975069773b6"), looks := true }, kinds := [], alts := [], laidByText := true, laidKinds := [.data, .data, .data], laidTests := true, laidLooks := .later }
def BrokerKnownCardSaid : Prop := Claim7.holds Tryz.pinned (.plain (OpenSpec.ofChange brokerKnownSpec)) brokerKnownCard

/-- THE TIED CARD OF 'crierlaw24.BrokerTells'. -/
def brokerTellsCard : Claim7 := { stood := { row := brokerTellsRow, standIns := [], harness := (true, "eb0cf306507bcfc7ba8c186a5cf823a11a8a080634520a1a069b5975069773b6"), looks := true }, kinds := [], alts := [], laidByText := true, laidKinds := [.data, .data, .data, .data, .sentinel, .sentinel, .pinned], laidTests := true, laidLooks := .later }
def BrokerTellsCardSaid : Prop := Claim7.holds Tryz.pinned (.plain (OpenSpec.ofChange brokerTellsSpec)) brokerTellsCard

/-- THE SECOND FORM's CARD OF 'crierlaw24.BrokerLeft'. -/
def brokerLeftUptoCard : Claim7 := { stood := { row := brokerLeftUptoRow, standIns := [], harness := (true, "eb0cf306507bcfc7ba8c186a5cf823a11a8a080634520a1a069b5975069773b6"), looks := true }, kinds := [], alts := [], laidByText := true, laidKinds := [.data, .data, .data], laidTests := true, laidLooks := .later }
def BrokerLeftUptoCardSaid : Prop := Claim7.holds Tryz.pinned (.plain (OpenSpec.upto brokerLeftSpec)) brokerLeftUptoCard

/-- THE SECOND FORM's CARD OF 'crierlaw24.BrokerPlays'. -/
def brokerPlaysUptoCard : Claim7 := { stood := { row := brokerPlaysUptoRow, standIns := [], harness := (true, "eb0cf306507bcfc7ba8c186a5cf823a11a8a080634520a1a069b5975069773b6"), looks := true }, kinds := [], alts := [], laidByText := true, laidKinds := [.data, .data, .data], laidTests := true, laidLooks := .later }
def BrokerPlaysUptoCardSaid : Prop := Claim7.holds Tryz.pinned (.plain (OpenSpec.upto brokerPlaysSpec)) brokerPlaysUptoCard

/-- THE SECOND FORM's CARD OF 'crierlaw24.BrokerNobody'. -/
def brokerNobodyUptoCard : Claim7 := { stood := { row := brokerNobodyUptoRow, standIns := [], harness := (true, "eb0cf306507bcfc7ba8c186a5cf823a11a8a080634520a1a069b5975069773b6"), looks := true }, kinds := [], alts := [], laidByText := true, laidKinds := [.data, .data, .data], laidTests := true, laidLooks := .later }
def BrokerNobodyUptoCardSaid : Prop := Claim7.holds Tryz.pinned (.plain (OpenSpec.upto brokerNobodySpec)) brokerNobodyUptoCard

/-- THE SECOND FORM's CARD OF 'crierlaw24.BrokerKnown'. -/
def brokerKnownUptoCard : Claim7 := { stood := { row := brokerKnownUptoRow, standIns := [], harness := (true, "eb0cf306507bcfc7ba8c186a5cf823a11a8a080634520a1a069b5975069773b6"), looks := true }, kinds := [], alts := [], laidByText := true, laidKinds := [.data, .data, .data], laidTests := true, laidLooks := .later }
def BrokerKnownUptoCardSaid : Prop := Claim7.holds Tryz.pinned (.plain (OpenSpec.upto brokerKnownSpec)) brokerKnownUptoCard

/-- THE SECOND FORM's CARD OF 'crierlaw24.BrokerTells'. -/
def brokerTellsUptoCard : Claim7 := { stood := { row := brokerTellsUptoRow, standIns := [], harness := (true, "eb0cf306507bcfc7ba8c186a5cf823a11a8a080634520a1a069b5975069773b6"), looks := true }, kinds := [], alts := [], laidByText := true, laidKinds := [.data, .data, .data, .data, .sentinel, .sentinel, .pinned], laidTests := true, laidLooks := .later }
def BrokerTellsUptoCardSaid : Prop := Claim7.holds Tryz.pinned (.plain (OpenSpec.upto brokerTellsSpec)) brokerTellsUptoCard
end Rows
end Go.Proofs.YtdobgebdlbckoaaGreatDoor
