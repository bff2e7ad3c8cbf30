/-
  DERIVED. GIVEN WITH THE SEED: THE CARDS: each row of YtfgfpdingddkcaaGreatDoorRows.lean that lists a variable, with what it lists TIED to the program's text (the seventh form; the later family's looks); each row that meets fmt, with fmt's text TOLD by the authors' own Lean function (tested against real Go, not proved from fmt's source: count such statements apart). THE CARD IS WHAT COUNTS. Prove the row's statement (the work); the ties are given (YtfgfpdingddkcaaGreatDoorTie.lean); close each card by the builder's one call (the guide's Derived/Test/ToyasCard.lean, 'card_holds'). Laid BY PROGRAM, IN A SANDBOX (cutbox-door.mjs). By AI agents, Wed Nov 11 2026. No macro, syntax, notation, axiom, sorry.
-/
import Derived.Test.YtfgfpdingddkcaaGreatDoorRows
import GoSem.ClaimSeven
namespace Go.Proofs.YtfgfpdingddkcaaGreatDoor
namespace Rows

/-- THE TIED CARD OF 'laws.FnResolved'. -/
def fnResolvedCard : Claim7 := { stood := { row := fnResolvedRow, standIns := [], harness := (true, "fe06843fcfe87e39bbb5a6292bd4f4570bbd78f810b1191db076c1c90a8eac12"), looks := true }, kinds := [], alts := [], laidByText := true, laidKinds := [.data, .data, .data, .data, .sentinel, .sentinel, .pinned], laidTests := true, laidLooks := .later }
def FnResolvedCardSaid : Prop := Claim7.holds Tryz.pinned (.plain (OpenSpec.ofChange fnResolvedSpec)) fnResolvedCard

/-- THE SECOND FORM's CARD OF 'laws.FnResolved'. -/
def fnResolvedUptoCard : Claim7 := { stood := { row := fnResolvedUptoRow, standIns := [], harness := (true, "fe06843fcfe87e39bbb5a6292bd4f4570bbd78f810b1191db076c1c90a8eac12"), looks := true }, kinds := [], alts := [], laidByText := true, laidKinds := [.data, .data, .data, .data, .sentinel, .sentinel, .pinned], laidTests := true, laidLooks := .later }
def FnResolvedUptoCardSaid : Prop := Claim7.holds Tryz.pinned (.plain (OpenSpec.upto fnResolvedSpec)) fnResolvedUptoCard
end Rows
end Go.Proofs.YtfgfpdingddkcaaGreatDoor
