/-
  DERIVED. GIVEN WITH THE SEED: THE CARDS: each row of YtbcocgbppbjdhaaGreatDoorRows.lean that lists a variable, with what it lists TIED to the program's text (the seventh form; the later family's looks); each row that meets fmt, with fmt's text TOLD by the authors' own Lean function (tested against real Go, not proved from fmt's source: count such statements apart). THE CARD IS WHAT COUNTS. Prove the row's statement (the work); the ties are given (YtbcocgbppbjdhaaGreatDoorTie.lean); close each card by the builder's one call (the guide's Derived/Test/ToyasCard.lean, 'card_holds'). Laid BY PROGRAM, IN A SANDBOX (cutbox-door.mjs). By AI agents, Wed Nov 11 2026. No macro, syntax, notation, axiom, sorry.
-/
import Derived.Test.YtbcocgbppbjdhaaGreatDoorRows
import GoSem.ClaimSeven
namespace Go.Proofs.YtbcocgbppbjdhaaGreatDoor
namespace Rows

/-- THE TIED CARD OF 'laws.FnExactAskCache'. -/
def fnExactAskCacheCard : Claim7 := { stood := { row := fnExactAskCacheRow, standIns := [], harness := (true, "586e724c421986ba27b135641db592c8a5e6262e1724573a4385f426a5f9e7fa"), looks := true }, kinds := [], alts := [], laidByText := true, laidKinds := [.data, .data, .data, .data, .sentinel, .sentinel, .pinned], laidTests := true, laidLooks := .later }
def FnExactAskCacheCardSaid : Prop := Claim7.holds Tryz.pinned (.plain (OpenSpec.ofChange fnExactAskCacheSpec)) fnExactAskCacheCard

/-- THE SECOND FORM's CARD OF 'laws.FnExactAskCache'. -/
def fnExactAskCacheUptoCard : Claim7 := { stood := { row := fnExactAskCacheUptoRow, standIns := [], harness := (true, "586e724c421986ba27b135641db592c8a5e6262e1724573a4385f426a5f9e7fa"), looks := true }, kinds := [], alts := [], laidByText := true, laidKinds := [.data, .data, .data, .data, .sentinel, .sentinel, .pinned], laidTests := true, laidLooks := .later }
def FnExactAskCacheUptoCardSaid : Prop := Claim7.holds Tryz.pinned (.plain (OpenSpec.upto fnExactAskCacheSpec)) fnExactAskCacheUptoCard
end Rows
end Go.Proofs.YtbcocgbppbjdhaaGreatDoor
