/-
  DERIVED. GIVEN WITH THE SEED: THE CARDS: each row of YtlflhlgppbbahaaGreatDoorRows.lean that lists a variable, with what it lists TIED to the program's text (the seventh form; the later family's looks); each row that meets fmt, with fmt's text TOLD by the authors' own Lean function (tested against real Go, not proved from fmt's source: count such statements apart). THE CARD IS WHAT COUNTS. Prove the row's statement (the work); the ties are given (YtlflhlgppbbahaaGreatDoorTie.lean); close each card by the builder's one call (the guide's Derived/Test/ToyasCard.lean, 'card_holds'). Laid BY PROGRAM, IN A SANDBOX (cutbox-door.mjs). By AI agents, Wed Nov 11 2026. No macro, syntax, notation, axiom, sorry.
-/
import Derived.Test.YtlflhlgppbbahaaGreatDoorRows
import GoSem.ClaimSeven
namespace Go.Proofs.YtlflhlgppbbahaaGreatDoor
namespace Rows

/-- THE TIED CARD OF 'laws.FnExactNewControl'. -/
def fnExactNewControlCard : Claim7 := { stood := { row := fnExactNewControlRow, standIns := [], harness := (true, "d8f3b98515486dea00fb0f9cdfa07a66d5a67d94112b518c89fb874046cdc5d5"), looks := true }, kinds := [], alts := [], laidByText := true, laidKinds := [.data, .data, .data, .data, .sentinel, .sentinel, .pinned], laidTests := true, laidLooks := .later }
def FnExactNewControlCardSaid : Prop := Claim7.holds Tryz.pinned (.plain (OpenSpec.ofChange fnExactNewControlSpec)) fnExactNewControlCard

/-- THE TIED CARD OF 'laws.FnExactGoodControl'. -/
def fnExactGoodControlCard : Claim7 := { stood := { row := fnExactGoodControlRow, standIns := [], harness := (true, "d8f3b98515486dea00fb0f9cdfa07a66d5a67d94112b518c89fb874046cdc5d5"), looks := true }, kinds := [], alts := [], laidByText := true, laidKinds := [.data, .data, .data, .data, .sentinel, .sentinel, .pinned], laidTests := true, laidLooks := .later }
def FnExactGoodControlCardSaid : Prop := Claim7.holds Tryz.pinned (.plain (OpenSpec.ofChange fnExactGoodControlSpec)) fnExactGoodControlCard

/-- THE SECOND FORM's CARD OF 'laws.FnExactNewControl'. -/
def fnExactNewControlUptoCard : Claim7 := { stood := { row := fnExactNewControlUptoRow, standIns := [], harness := (true, "d8f3b98515486dea00fb0f9cdfa07a66d5a67d94112b518c89fb874046cdc5d5"), looks := true }, kinds := [], alts := [], laidByText := true, laidKinds := [.data, .data, .data, .data, .sentinel, .sentinel, .pinned], laidTests := true, laidLooks := .later }
def FnExactNewControlUptoCardSaid : Prop := Claim7.holds Tryz.pinned (.plain (OpenSpec.upto fnExactNewControlSpec)) fnExactNewControlUptoCard

/-- THE SECOND FORM's CARD OF 'laws.FnExactGoodControl'. -/
def fnExactGoodControlUptoCard : Claim7 := { stood := { row := fnExactGoodControlUptoRow, standIns := [], harness := (true, "d8f3b98515486dea00fb0f9cdfa07a66d5a67d94112b518c89fb874046cdc5d5"), looks := true }, kinds := [], alts := [], laidByText := true, laidKinds := [.data, .data, .data, .data, .sentinel, .sentinel, .pinned], laidTests := true, laidLooks := .later }
def FnExactGoodControlUptoCardSaid : Prop := Claim7.holds Tryz.pinned (.plain (OpenSpec.upto fnExactGoodControlSpec)) fnExactGoodControlUptoCard
end Rows
end Go.Proofs.YtlflhlgppbbahaaGreatDoor
