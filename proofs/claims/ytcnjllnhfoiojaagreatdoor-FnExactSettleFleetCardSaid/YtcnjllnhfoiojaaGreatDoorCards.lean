/-
  DERIVED. GIVEN WITH THE SEED: THE CARDS: each row of YtcnjllnhfoiojaaGreatDoorRows.lean that lists a variable, with what it lists TIED to the program's text (the seventh form; the later family's looks); each row that meets fmt, with fmt's text TOLD by the authors' own Lean function (tested against real Go, not proved from fmt's source: count such statements apart). THE CARD IS WHAT COUNTS. Prove the row's statement (the work); the ties are given (YtcnjllnhfoiojaaGreatDoorTie.lean); close each card by the builder's one call (the guide's Derived/Test/ToyasCard.lean, 'card_holds'). Laid BY PROGRAM, IN A SANDBOX (cutbox-door.mjs). By AI agents, Wed Nov 11 2026. No macro, syntax, notation, axiom, sorry.
-/
import Derived.Test.YtcnjllnhfoiojaaGreatDoorRows
import GoSem.ClaimSeven
namespace Go.Proofs.YtcnjllnhfoiojaaGreatDoor
namespace Rows

/-- THE TIED CARD OF 'laws.FnExactSettleFleet'. -/
def fnExactSettleFleetCard : Claim7 := { stood := { row := fnExactSettleFleetRow, standIns := [], harness := (true, "e026c4178a86bcbd7c10af01dcbf18f9baf886e83f6aca4305e47304d20aba18"), looks := true }, kinds := [], alts := [], laidByText := true, laidKinds := [.data, .data, .data, .data, .sentinel, .sentinel, .pinned], laidTests := true, laidLooks := .later }
def FnExactSettleFleetCardSaid : Prop := Claim7.holds Tryz.pinned (.plain (OpenSpec.ofChange fnExactSettleFleetSpec)) fnExactSettleFleetCard

/-- THE SECOND FORM's CARD OF 'laws.FnExactSettleFleet'. -/
def fnExactSettleFleetUptoCard : Claim7 := { stood := { row := fnExactSettleFleetUptoRow, standIns := [], harness := (true, "e026c4178a86bcbd7c10af01dcbf18f9baf886e83f6aca4305e47304d20aba18"), looks := true }, kinds := [], alts := [], laidByText := true, laidKinds := [.data, .data, .data, .data, .sentinel, .sentinel, .pinned], laidTests := true, laidLooks := .later }
def FnExactSettleFleetUptoCardSaid : Prop := Claim7.holds Tryz.pinned (.plain (OpenSpec.upto fnExactSettleFleetSpec)) fnExactSettleFleetUptoCard
end Rows
end Go.Proofs.YtcnjllnhfoiojaaGreatDoor
