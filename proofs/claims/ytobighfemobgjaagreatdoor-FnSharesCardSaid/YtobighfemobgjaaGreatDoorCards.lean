/-
  DERIVED. GIVEN WITH THE SEED: THE CARDS: each row of YtobighfemobgjaaGreatDoorRows.lean that lists a variable, with what it lists TIED to the program's text (the seventh form; the later family's looks); each row that meets fmt, with fmt's text TOLD by the authors' own Lean function (tested against real Go, not proved from fmt's source: count such statements apart). THE CARD IS WHAT COUNTS. Prove the row's statement (the work); the ties are given (YtobighfemobgjaaGreatDoorTie.lean); close each card by the builder's one call (the guide's Derived/Test/ToyasCard.lean, 'card_holds'). Laid BY PROGRAM, IN A SANDBOX (cutbox-door.mjs). By AI agents, Wed Nov 11 2026. No macro, syntax, notation, axiom, sorry.
-/
import Derived.Test.YtobighfemobgjaaGreatDoorRows
import GoSem.ClaimSeven
namespace Go.Proofs.YtobighfemobgjaaGreatDoor
namespace Rows

/-- THE TIED CARD OF 'laws.FnShares'. -/
def fnSharesCard : Claim7 := { stood := { row := fnSharesRow, standIns := [], harness := (true, "f06050a1105367616ae52bd088e1b3598c0f0ffba0ee19cb79d9b6fcde8cf67a"), looks := true }, kinds := [], alts := [], laidByText := true, laidKinds := [.data, .data, .data, .data, .sentinel, .sentinel, .pinned], laidTests := true, laidLooks := .later }
def FnSharesCardSaid : Prop := Claim7.holds Tryz.pinned (.plain (OpenSpec.ofChange fnSharesSpec)) fnSharesCard

/-- THE TIED CARD OF 'laws.FnChosen'. -/
def fnChosenCard : Claim7 := { stood := { row := fnChosenRow, standIns := [], harness := (true, "f06050a1105367616ae52bd088e1b3598c0f0ffba0ee19cb79d9b6fcde8cf67a"), looks := true }, kinds := [], alts := [], laidByText := true, laidKinds := [.data, .data, .data, .data, .sentinel, .sentinel, .pinned], laidTests := true, laidLooks := .later }
def FnChosenCardSaid : Prop := Claim7.holds Tryz.pinned (.plain (OpenSpec.ofChange fnChosenSpec)) fnChosenCard

/-- THE SECOND FORM's CARD OF 'laws.FnShares'. -/
def fnSharesUptoCard : Claim7 := { stood := { row := fnSharesUptoRow, standIns := [], harness := (true, "f06050a1105367616ae52bd088e1b3598c0f0ffba0ee19cb79d9b6fcde8cf67a"), looks := true }, kinds := [], alts := [], laidByText := true, laidKinds := [.data, .data, .data, .data, .sentinel, .sentinel, .pinned], laidTests := true, laidLooks := .later }
def FnSharesUptoCardSaid : Prop := Claim7.holds Tryz.pinned (.plain (OpenSpec.upto fnSharesSpec)) fnSharesUptoCard

/-- THE SECOND FORM's CARD OF 'laws.FnChosen'. -/
def fnChosenUptoCard : Claim7 := { stood := { row := fnChosenUptoRow, standIns := [], harness := (true, "f06050a1105367616ae52bd088e1b3598c0f0ffba0ee19cb79d9b6fcde8cf67a"), looks := true }, kinds := [], alts := [], laidByText := true, laidKinds := [.data, .data, .data, .data, .sentinel, .sentinel, .pinned], laidTests := true, laidLooks := .later }
def FnChosenUptoCardSaid : Prop := Claim7.holds Tryz.pinned (.plain (OpenSpec.upto fnChosenSpec)) fnChosenUptoCard
end Rows
end Go.Proofs.YtobighfemobgjaaGreatDoor
