/-
  DERIVED. GIVEN WITH THE SEED: THE CARDS: each row of YtdobgebdlbckoaaDoorRows.lean that lists a variable, with what it lists TIED to the program's text (the seventh form; the later family's looks); each row that meets fmt, with fmt's text TOLD by the authors' own Lean function (tested against real Go, not proved from fmt's source: count such statements apart). THE CARD IS WHAT COUNTS. Prove the row's statement (the work); the ties are given (YtdobgebdlbckoaaDoorTie.lean); close each card by the builder's one call (the guide's Derived/Test/ToyasCard.lean, 'card_holds'). Laid BY PROGRAM, IN A SANDBOX (cutbox-door.mjs). By AI agents, Wed Nov 11 2026. No macro, syntax, notation, axiom, sorry.
-/
import Derived.Test.YtdobgebdlbckoaaDoorRows
import GoSem.ClaimSeven
namespace Go.Proofs.YtdobgebdlbckoaaDoor
namespace Rows

/-- THE TIED CARD OF 'crierlaw24.BrokerMost'. -/
def brokerMostCard : Claim7 := { stood := { row := brokerMostRow, standIns := [], harness := (true, "efed7dae2c9eeeff093ebbc353ae155945f022487865dbc66b6a3b19f1a92018"), looks := false }, kinds := [], alts := [], laidByText := true, laidKinds := [.data, .data, .data], laidTests := true, laidLooks := .later }
def BrokerMostCardSaid : Prop := Claim7.holds Tryd.pinned (.plain (OpenSpec.ofChange brokerMostSpec)) brokerMostCard

/-- THE SECOND FORM's CARD OF 'crierlaw24.BrokerMost'. -/
def brokerMostUptoCard : Claim7 := { stood := { row := brokerMostUptoRow, standIns := [], harness := (true, "efed7dae2c9eeeff093ebbc353ae155945f022487865dbc66b6a3b19f1a92018"), looks := false }, kinds := [], alts := [], laidByText := true, laidKinds := [.data, .data, .data], laidTests := true, laidLooks := .later }
def BrokerMostUptoCardSaid : Prop := Claim7.holds Tryd.pinned (.plain (OpenSpec.upto brokerMostSpec)) brokerMostUptoCard
end Rows
end Go.Proofs.YtdobgebdlbckoaaDoor
