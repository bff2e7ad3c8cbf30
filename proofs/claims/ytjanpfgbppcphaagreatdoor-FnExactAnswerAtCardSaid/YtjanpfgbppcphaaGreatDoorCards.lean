/-
  DERIVED. GIVEN WITH THE SEED: THE CARDS: each row of YtjanpfgbppcphaaGreatDoorRows.lean that lists a variable, with what it lists TIED to the program's text (the seventh form; the later family's looks); each row that meets fmt, with fmt's text TOLD by the authors' own Lean function (tested against real Go, not proved from fmt's source: count such statements apart). THE CARD IS WHAT COUNTS. Prove the row's statement (the work); the ties are given (YtjanpfgbppcphaaGreatDoorTie.lean); close each card by the builder's one call (the guide's Derived/Test/ToyasCard.lean, 'card_holds'). Laid BY PROGRAM, IN A SANDBOX (cutbox-door.mjs). By AI agents, Wed Nov 11 2026. No macro, syntax, notation, axiom, sorry.
-/
import Derived.Test.YtjanpfgbppcphaaGreatDoorRows
import GoSem.ClaimSeven
namespace Go.Proofs.YtjanpfgbppcphaaGreatDoor
namespace Rows

/-- THE TIED CARD OF 'laws.FnExactGoodFleet'. -/
def fnExactGoodFleetCard : Claim7 := { stood := { row := fnExactGoodFleetRow, standIns := [], harness := (true, "e8052db7427634fb543e81529924048f1a81da46cebf7370bce8b219d7b0a738"), looks := true }, kinds := [], alts := [], laidByText := true, laidKinds := [.data, .data, .data, .data, .sentinel, .sentinel, .pinned], laidTests := true, laidLooks := .later }
def FnExactGoodFleetCardSaid : Prop := Claim7.holds Tryz.pinned (.plain (OpenSpec.ofChange fnExactGoodFleetSpec)) fnExactGoodFleetCard

/-- THE TIED CARD OF 'laws.FnExactLagOf'. -/
def fnExactLagOfCard : Claim7 := { stood := { row := fnExactLagOfRow, standIns := [], harness := (true, "e8052db7427634fb543e81529924048f1a81da46cebf7370bce8b219d7b0a738"), looks := true }, kinds := [], alts := [], laidByText := true, laidKinds := [.data, .data, .data, .data, .sentinel, .sentinel, .pinned], laidTests := true, laidLooks := .later }
def FnExactLagOfCardSaid : Prop := Claim7.holds Tryz.pinned (.plain (OpenSpec.ofChange fnExactLagOfSpec)) fnExactLagOfCard

/-- THE TIED CARD OF 'laws.FnExactAnswerAt'. -/
def fnExactAnswerAtCard : Claim7 := { stood := { row := fnExactAnswerAtRow, standIns := [], harness := (true, "e8052db7427634fb543e81529924048f1a81da46cebf7370bce8b219d7b0a738"), looks := true }, kinds := [], alts := [], laidByText := true, laidKinds := [.data, .data, .data, .data, .sentinel, .sentinel, .pinned], laidTests := true, laidLooks := .later }
def FnExactAnswerAtCardSaid : Prop := Claim7.holds Tryz.pinned (.plain (OpenSpec.ofChange fnExactAnswerAtSpec)) fnExactAnswerAtCard

/-- THE SECOND FORM's CARD OF 'laws.FnExactGoodFleet'. -/
def fnExactGoodFleetUptoCard : Claim7 := { stood := { row := fnExactGoodFleetUptoRow, standIns := [], harness := (true, "e8052db7427634fb543e81529924048f1a81da46cebf7370bce8b219d7b0a738"), looks := true }, kinds := [], alts := [], laidByText := true, laidKinds := [.data, .data, .data, .data, .sentinel, .sentinel, .pinned], laidTests := true, laidLooks := .later }
def FnExactGoodFleetUptoCardSaid : Prop := Claim7.holds Tryz.pinned (.plain (OpenSpec.upto fnExactGoodFleetSpec)) fnExactGoodFleetUptoCard

/-- THE SECOND FORM's CARD OF 'laws.FnExactLagOf'. -/
def fnExactLagOfUptoCard : Claim7 := { stood := { row := fnExactLagOfUptoRow, standIns := [], harness := (true, "e8052db7427634fb543e81529924048f1a81da46cebf7370bce8b219d7b0a738"), looks := true }, kinds := [], alts := [], laidByText := true, laidKinds := [.data, .data, .data, .data, .sentinel, .sentinel, .pinned], laidTests := true, laidLooks := .later }
def FnExactLagOfUptoCardSaid : Prop := Claim7.holds Tryz.pinned (.plain (OpenSpec.upto fnExactLagOfSpec)) fnExactLagOfUptoCard

/-- THE SECOND FORM's CARD OF 'laws.FnExactAnswerAt'. -/
def fnExactAnswerAtUptoCard : Claim7 := { stood := { row := fnExactAnswerAtUptoRow, standIns := [], harness := (true, "e8052db7427634fb543e81529924048f1a81da46cebf7370bce8b219d7b0a738"), looks := true }, kinds := [], alts := [], laidByText := true, laidKinds := [.data, .data, .data, .data, .sentinel, .sentinel, .pinned], laidTests := true, laidLooks := .later }
def FnExactAnswerAtUptoCardSaid : Prop := Claim7.holds Tryz.pinned (.plain (OpenSpec.upto fnExactAnswerAtSpec)) fnExactAnswerAtUptoCard
end Rows
end Go.Proofs.YtjanpfgbppcphaaGreatDoor
