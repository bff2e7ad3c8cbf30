/-
  DERIVED. GIVEN WITH THE SEED: THE CARDS: each row of YtilejnnnkfjmmaaGreatDoorRows.lean that lists a variable, with what it lists TIED to the program's text (the seventh form; the later family's looks); each row that meets fmt, with fmt's text TOLD by the authors' own Lean function (tested against real Go, not proved from fmt's source: count such statements apart). THE CARD IS WHAT COUNTS. Prove the row's statement (the work); the ties are given (YtilejnnnkfjmmaaGreatDoorTie.lean); close each card by the builder's one call (the guide's Derived/Test/ToyasCard.lean, 'card_holds'). Laid BY PROGRAM, IN A SANDBOX (cutbox-door.mjs). By AI agents, Wed Nov 11 2026. No macro, syntax, notation, axiom, sorry.
-/
import Derived.Test.YtilejnnnkfjmmaaGreatDoorRows
import GoSem.ClaimSeven
namespace Go.Proofs.YtilejnnnkfjmmaaGreatDoor
namespace Rows

/-- THE TIED CARD OF 'laws.FnExactReadAsked'. -/
def fnExactReadAskedCard : Claim7 := { stood := { row := fnExactReadAskedRow, standIns := [], harness := (true, "7cdd32a773808c06e8fe8a3a1f3afe0e00df056d93d16daffcc80f1a35595b4c"), looks := true }, kinds := [], alts := [], laidByText := true, laidKinds := [.data, .data, .data, .data, .sentinel, .sentinel, .pinned], laidTests := true, laidLooks := .later }
def FnExactReadAskedCardSaid : Prop := Claim7.holds Tryz.pinned (.plain (OpenSpec.ofChange fnExactReadAskedSpec)) fnExactReadAskedCard

/-- THE TIED CARD OF 'laws.FnOnce'. -/
def fnOnceCard : Claim7 := { stood := { row := fnOnceRow, standIns := [], harness := (true, "7cdd32a773808c06e8fe8a3a1f3afe0e00df056d93d16daffcc80f1a35595b4c"), looks := true }, kinds := [], alts := [], laidByText := true, laidKinds := [.data, .data, .data, .data, .sentinel, .sentinel, .pinned], laidTests := true, laidLooks := .later }
def FnOnceCardSaid : Prop := Claim7.holds Tryz.pinned (.plain (OpenSpec.ofChange fnOnceSpec)) fnOnceCard

/-- THE SECOND FORM's CARD OF 'laws.FnExactReadAsked'. -/
def fnExactReadAskedUptoCard : Claim7 := { stood := { row := fnExactReadAskedUptoRow, standIns := [], harness := (true, "7cdd32a773808c06e8fe8a3a1f3afe0e00df056d93d16daffcc80f1a35595b4c"), looks := true }, kinds := [], alts := [], laidByText := true, laidKinds := [.data, .data, .data, .data, .sentinel, .sentinel, .pinned], laidTests := true, laidLooks := .later }
def FnExactReadAskedUptoCardSaid : Prop := Claim7.holds Tryz.pinned (.plain (OpenSpec.upto fnExactReadAskedSpec)) fnExactReadAskedUptoCard

/-- THE SECOND FORM's CARD OF 'laws.FnOnce'. -/
def fnOnceUptoCard : Claim7 := { stood := { row := fnOnceUptoRow, standIns := [], harness := (true, "7cdd32a773808c06e8fe8a3a1f3afe0e00df056d93d16daffcc80f1a35595b4c"), looks := true }, kinds := [], alts := [], laidByText := true, laidKinds := [.data, .data, .data, .data, .sentinel, .sentinel, .pinned], laidTests := true, laidLooks := .later }
def FnOnceUptoCardSaid : Prop := Claim7.holds Tryz.pinned (.plain (OpenSpec.upto fnOnceSpec)) fnOnceUptoCard
end Rows
end Go.Proofs.YtilejnnnkfjmmaaGreatDoor
