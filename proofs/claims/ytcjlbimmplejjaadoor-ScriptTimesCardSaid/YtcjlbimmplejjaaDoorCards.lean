/-
  DERIVED. GIVEN WITH THE SEED: THE CARDS: each row of YtcjlbimmplejjaaDoorRows.lean that lists a variable, with what it lists TIED to the program's text (the seventh form; the later family's looks); each row that meets fmt, with fmt's text TOLD by the authors' own Lean function (tested against real Go, not proved from fmt's source: count such statements apart). THE CARD IS WHAT COUNTS. Prove the row's statement (the work); the ties are given (YtcjlbimmplejjaaDoorTie.lean); close each card by the builder's one call (the guide's Derived/Test/ToyasCard.lean, 'card_holds'). Laid BY PROGRAM, IN A SANDBOX (cutbox-door.mjs). By AI agents, Wed Nov 11 2026. No macro, syntax, notation, axiom, sorry.
-/
import Derived.Test.YtcjlbimmplejjaaDoorRows
import GoSem.ClaimSeven
namespace Go.Proofs.YtcjlbimmplejjaaDoor
namespace Rows

/-- THE TIED CARD OF 'crierlaw30.ScriptBack'. -/
def scriptBackCard : Claim7 := { stood := { row := scriptBackRow, standIns := [], harness := (true, "ee9a5a0ab6454cc635e439d495fa5415ae268ee1cdb93fc999b392448c9fe15a"), looks := true }, kinds := [], alts := [], laidByText := true, laidKinds := [.data, .data, .data, .data, .sentinel, .sentinel, .pinned], laidTests := true, laidLooks := .later }
def ScriptBackCardSaid : Prop := Claim7.holds Tryd.pinned (.plain (OpenSpec.ofChange scriptBackSpec)) scriptBackCard

/-- THE TIED CARD OF 'crierlaw30.ScriptFirst'. -/
def scriptFirstCard : Claim7 := { stood := { row := scriptFirstRow, standIns := [], harness := (true, "ee9a5a0ab6454cc635e439d495fa5415ae268ee1cdb93fc999b392448c9fe15a"), looks := true }, kinds := [], alts := [], laidByText := true, laidKinds := [.data, .data, .data, .data, .sentinel, .sentinel, .pinned], laidTests := true, laidLooks := .later }
def ScriptFirstCardSaid : Prop := Claim7.holds Tryd.pinned (.plain (OpenSpec.ofChange scriptFirstSpec)) scriptFirstCard

/-- THE TIED CARD OF 'crierlaw30.ScriptTimes'. -/
def scriptTimesCard : Claim7 := { stood := { row := scriptTimesRow, standIns := [], harness := (true, "ee9a5a0ab6454cc635e439d495fa5415ae268ee1cdb93fc999b392448c9fe15a"), looks := true }, kinds := [], alts := [], laidByText := true, laidKinds := [.data, .data, .data, .data, .sentinel, .sentinel, .pinned], laidTests := true, laidLooks := .later }
def ScriptTimesCardSaid : Prop := Claim7.holds Tryd.pinned (.plain (OpenSpec.ofChange scriptTimesSpec)) scriptTimesCard

/-- THE SECOND FORM's CARD OF 'crierlaw30.ScriptBack'. -/
def scriptBackUptoCard : Claim7 := { stood := { row := scriptBackUptoRow, standIns := [], harness := (true, "ee9a5a0ab6454cc635e439d495fa5415ae268ee1cdb93fc999b392448c9fe15a"), looks := true }, kinds := [], alts := [], laidByText := true, laidKinds := [.data, .data, .data, .data, .sentinel, .sentinel, .pinned], laidTests := true, laidLooks := .later }
def ScriptBackUptoCardSaid : Prop := Claim7.holds Tryd.pinned (.plain (OpenSpec.upto scriptBackSpec)) scriptBackUptoCard

/-- THE SECOND FORM's CARD OF 'crierlaw30.ScriptFirst'. -/
def scriptFirstUptoCard : Claim7 := { stood := { row := scriptFirstUptoRow, standIns := [], harness := (true, "ee9a5a0ab6454cc635e439d495fa5415ae268ee1cdb93fc999b392448c9fe15a"), looks := true }, kinds := [], alts := [], laidByText := true, laidKinds := [.data, .data, .data, .data, .sentinel, .sentinel, .pinned], laidTests := true, laidLooks := .later }
def ScriptFirstUptoCardSaid : Prop := Claim7.holds Tryd.pinned (.plain (OpenSpec.upto scriptFirstSpec)) scriptFirstUptoCard

/-- THE SECOND FORM's CARD OF 'crierlaw30.ScriptTimes'. -/
def scriptTimesUptoCard : Claim7 := { stood := { row := scriptTimesUptoRow, standIns := [], harness := (true, "ee9a5a0ab6454cc635e439d495fa5415ae268ee1cdb93fc999b392448c9fe15a"), looks := true }, kinds := [], alts := [], laidByText := true, laidKinds := [.data, .data, .data, .data, .sentinel, .sentinel, .pinned], laidTests := true, laidLooks := .later }
def ScriptTimesUptoCardSaid : Prop := Claim7.holds Tryd.pinned (.plain (OpenSpec.upto scriptTimesSpec)) scriptTimesUptoCard
end Rows
end Go.Proofs.YtcjlbimmplejjaaDoor
