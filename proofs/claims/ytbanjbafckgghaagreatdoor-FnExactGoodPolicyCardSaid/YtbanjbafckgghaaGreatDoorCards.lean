/-
  DERIVED. GIVEN WITH THE SEED: THE CARDS: each row of YtbanjbafckgghaaGreatDoorRows.lean that lists a variable, with what it lists TIED to the program's text (the seventh form; the later family's looks); each row that meets fmt, with fmt's text TOLD by the authors' own Lean function (tested against real Go, not proved from fmt's source: count such statements apart). THE CARD IS WHAT COUNTS. Prove the row's statement (the work); the ties are given (YtbanjbafckgghaaGreatDoorTie.lean); close each card by the builder's one call (the guide's Derived/Test/ToyasCard.lean, 'card_holds'). Laid BY PROGRAM, IN A SANDBOX (cutbox-door.mjs). By AI agents, Wed Nov 11 2026. No macro, syntax, notation, axiom, sorry.
-/
import Derived.Test.YtbanjbafckgghaaGreatDoorRows
import GoSem.ClaimSeven
namespace Go.Proofs.YtbanjbafckgghaaGreatDoor
namespace Rows

/-- THE TIED CARD OF 'laws.FnExactGoodPolicy'. -/
def fnExactGoodPolicyCard : Claim7 := { stood := { row := fnExactGoodPolicyRow, standIns := [], harness := (true, "be5e2026e1ddc3c753c6fb9564e6eb96c0eba30d47b004a6af46e6569ada50a5"), looks := true }, kinds := [], alts := [], laidByText := true, laidKinds := [.data, .data, .data, .data, .sentinel, .sentinel, .pinned], laidTests := true, laidLooks := .later }
def FnExactGoodPolicyCardSaid : Prop := Claim7.holds Tryz.pinned (.plain (OpenSpec.ofChange fnExactGoodPolicySpec)) fnExactGoodPolicyCard

/-- THE SECOND FORM's CARD OF 'laws.FnExactGoodPolicy'. -/
def fnExactGoodPolicyUptoCard : Claim7 := { stood := { row := fnExactGoodPolicyUptoRow, standIns := [], harness := (true, "be5e2026e1ddc3c753c6fb9564e6eb96c0eba30d47b004a6af46e6569ada50a5"), looks := true }, kinds := [], alts := [], laidByText := true, laidKinds := [.data, .data, .data, .data, .sentinel, .sentinel, .pinned], laidTests := true, laidLooks := .later }
def FnExactGoodPolicyUptoCardSaid : Prop := Claim7.holds Tryz.pinned (.plain (OpenSpec.upto fnExactGoodPolicySpec)) fnExactGoodPolicyUptoCard
end Rows
end Go.Proofs.YtbanjbafckgghaaGreatDoor
