/-
  DERIVED. GIVEN WITH THE SEED: THE CARDS: each row of YtllbponcjpcbnaaGreatDoorRows.lean that lists a variable, with what it lists TIED to the program's text (the seventh form; the later family's looks); each row that meets fmt, with fmt's text TOLD by the authors' own Lean function (tested against real Go, not proved from fmt's source: count such statements apart). THE CARD IS WHAT COUNTS. Prove the row's statement (the work); the ties are given (YtllbponcjpcbnaaGreatDoorTie.lean); close each card by the builder's one call (the guide's Derived/Test/ToyasCard.lean, 'card_holds'). Laid BY PROGRAM, IN A SANDBOX (cutbox-door.mjs). By AI agents, Wed Nov 11 2026. No macro, syntax, notation, axiom, sorry.
-/
import Derived.Test.YtllbponcjpcbnaaGreatDoorRows
import GoSem.ClaimSeven
namespace Go.Proofs.YtllbponcjpcbnaaGreatDoor
namespace Rows

/-- THE TIED CARD OF 'laws.FnExactPlayAsked'. -/
def fnExactPlayAskedCard : Claim7 := { stood := { row := fnExactPlayAskedRow, standIns := [], harness := (true, "75c37bbbaf2257a28d420ccfcc6ad93c63f859666f467dc1d9a91b509abb62d3"), looks := true }, kinds := [], alts := [], laidByText := true, laidKinds := [.data, .data, .data, .data, .sentinel, .sentinel, .pinned], laidTests := true, laidLooks := .later }
def FnExactPlayAskedCardSaid : Prop := Claim7.holds Tryz.pinned (.plain (OpenSpec.ofChange fnExactPlayAskedSpec)) fnExactPlayAskedCard

/-- THE TIED CARD OF 'laws.FnExactTakeAsked'. -/
def fnExactTakeAskedCard : Claim7 := { stood := { row := fnExactTakeAskedRow, standIns := [], harness := (true, "75c37bbbaf2257a28d420ccfcc6ad93c63f859666f467dc1d9a91b509abb62d3"), looks := true }, kinds := [], alts := [], laidByText := true, laidKinds := [.data, .data, .data, .data, .sentinel, .sentinel, .pinned], laidTests := true, laidLooks := .later }
def FnExactTakeAskedCardSaid : Prop := Claim7.holds Tryz.pinned (.plain (OpenSpec.ofChange fnExactTakeAskedSpec)) fnExactTakeAskedCard

/-- THE SECOND FORM's CARD OF 'laws.FnExactPlayAsked'. -/
def fnExactPlayAskedUptoCard : Claim7 := { stood := { row := fnExactPlayAskedUptoRow, standIns := [], harness := (true, "75c37bbbaf2257a28d420ccfcc6ad93c63f859666f467dc1d9a91b509abb62d3"), looks := true }, kinds := [], alts := [], laidByText := true, laidKinds := [.data, .data, .data, .data, .sentinel, .sentinel, .pinned], laidTests := true, laidLooks := .later }
def FnExactPlayAskedUptoCardSaid : Prop := Claim7.holds Tryz.pinned (.plain (OpenSpec.upto fnExactPlayAskedSpec)) fnExactPlayAskedUptoCard

/-- THE SECOND FORM's CARD OF 'laws.FnExactTakeAsked'. -/
def fnExactTakeAskedUptoCard : Claim7 := { stood := { row := fnExactTakeAskedUptoRow, standIns := [], harness := (true, "75c37bbbaf2257a28d420ccfcc6ad93c63f859666f467dc1d9a91b509abb62d3"), looks := true }, kinds := [], alts := [], laidByText := true, laidKinds := [.data, .data, .data, .data, .sentinel, .sentinel, .pinned], laidTests := true, laidLooks := .later }
def FnExactTakeAskedUptoCardSaid : Prop := Claim7.holds Tryz.pinned (.plain (OpenSpec.upto fnExactTakeAskedSpec)) fnExactTakeAskedUptoCard
end Rows
end Go.Proofs.YtllbponcjpcbnaaGreatDoor
