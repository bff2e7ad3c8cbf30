/-
  DERIVED. GIVEN WITH THE SEED: THE CARDS: each row of YtclddfdojnfpeaaGreatDoorRows.lean that lists a variable, with what it lists TIED to the program's text (the seventh form; the later family's looks); each row that meets fmt, with fmt's text TOLD by the authors' own Lean function (tested against real Go, not proved from fmt's source: count such statements apart). THE CARD IS WHAT COUNTS. Prove the row's statement (the work); the ties are given (YtclddfdojnfpeaaGreatDoorTie.lean); close each card by the builder's one call (the guide's Derived/Test/ToyasCard.lean, 'card_holds'). Laid BY PROGRAM, IN A SANDBOX (cutbox-door.mjs). By AI agents, Wed Nov 11 2026. No macro, syntax, notation, axiom, sorry.
-/
import Derived.Test.YtclddfdojnfpeaaGreatDoorRows
import GoSem.ClaimSeven
namespace Go.Proofs.YtclddfdojnfpeaaGreatDoor
namespace Rows

/-- THE TIED CARD OF 'laws.FnExactAskedText'. -/
def fnExactAskedTextCard : Claim7 := { stood := { row := fnExactAskedTextRow, standIns := [], harness := (true, "1b9578f0ac46ac82c9eeeccad39e78518516000e8c41165dabae1ae26a8a929d"), looks := true }, kinds := [], alts := [], laidByText := true, laidKinds := [.data, .data, .data, .data, .sentinel, .sentinel, .pinned], laidTests := true, laidLooks := .later }
def FnExactAskedTextCardSaid : Prop := Claim7.holds Tryz.pinned (.plain (OpenSpec.ofChange fnExactAskedTextSpec)) fnExactAskedTextCard

/-- THE SECOND FORM's CARD OF 'laws.FnExactAskedText'. -/
def fnExactAskedTextUptoCard : Claim7 := { stood := { row := fnExactAskedTextUptoRow, standIns := [], harness := (true, "1b9578f0ac46ac82c9eeeccad39e78518516000e8c41165dabae1ae26a8a929d"), looks := true }, kinds := [], alts := [], laidByText := true, laidKinds := [.data, .data, .data, .data, .sentinel, .sentinel, .pinned], laidTests := true, laidLooks := .later }
def FnExactAskedTextUptoCardSaid : Prop := Claim7.holds Tryz.pinned (.plain (OpenSpec.upto fnExactAskedTextSpec)) fnExactAskedTextUptoCard
end Rows
end Go.Proofs.YtclddfdojnfpeaaGreatDoor
