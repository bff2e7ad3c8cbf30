/-
  DERIVED. GIVEN WITH THE SEED: THE CARDS: each row of YtbacjgkmkkphdaaGreatDoorRows.lean that lists a variable, with what it lists TIED to the program's text (the seventh form; the later family's looks); each row that meets fmt, with fmt's text TOLD by the authors' own Lean function (tested against real Go, not proved from fmt's source: count such statements apart). THE CARD IS WHAT COUNTS. Prove the row's statement (the work); the ties are given (YtbacjgkmkkphdaaGreatDoorTie.lean); close each card by the builder's one call (the guide's Derived/Test/ToyasCard.lean, 'card_holds'). Laid BY PROGRAM, IN A SANDBOX (cutbox-door.mjs). By AI agents, Wed Nov 11 2026. No macro, syntax, notation, axiom, sorry.
-/
import Derived.Test.YtbacjgkmkkphdaaGreatDoorRows
import GoSem.ClaimSeven
namespace Go.Proofs.YtbacjgkmkkphdaaGreatDoor
namespace Rows

/-- THE TIED CARD OF 'laws.FnExactAddZone'. -/
def fnExactAddZoneCard : Claim7 := { stood := { row := fnExactAddZoneRow, standIns := [], harness := (true, "a0123c8a28c0fd40cc64aa6a9dab7d3ee11c767098458567c75199ca8454976a"), looks := true }, kinds := [], alts := [], laidByText := true, laidKinds := [.data, .data, .data, .data, .sentinel, .sentinel, .pinned], laidTests := true, laidLooks := .later }
def FnExactAddZoneCardSaid : Prop := Claim7.holds Tryz.pinned (.plain (OpenSpec.ofChange fnExactAddZoneSpec)) fnExactAddZoneCard

/-- THE TIED CARD OF 'laws.FnReached'. -/
def fnReachedCard : Claim7 := { stood := { row := fnReachedRow, standIns := [], harness := (true, "a0123c8a28c0fd40cc64aa6a9dab7d3ee11c767098458567c75199ca8454976a"), looks := true }, kinds := [], alts := [], laidByText := true, laidKinds := [.data, .data, .data, .data, .sentinel, .sentinel, .pinned], laidTests := true, laidLooks := .later }
def FnReachedCardSaid : Prop := Claim7.holds Tryz.pinned (.plain (OpenSpec.ofChange fnReachedSpec)) fnReachedCard

/-- THE SECOND FORM's CARD OF 'laws.FnExactAddZone'. -/
def fnExactAddZoneUptoCard : Claim7 := { stood := { row := fnExactAddZoneUptoRow, standIns := [], harness := (true, "a0123c8a28c0fd40cc64aa6a9dab7d3ee11c767098458567c75199ca8454976a"), looks := true }, kinds := [], alts := [], laidByText := true, laidKinds := [.data, .data, .data, .data, .sentinel, .sentinel, .pinned], laidTests := true, laidLooks := .later }
def FnExactAddZoneUptoCardSaid : Prop := Claim7.holds Tryz.pinned (.plain (OpenSpec.upto fnExactAddZoneSpec)) fnExactAddZoneUptoCard

/-- THE SECOND FORM's CARD OF 'laws.FnReached'. -/
def fnReachedUptoCard : Claim7 := { stood := { row := fnReachedUptoRow, standIns := [], harness := (true, "a0123c8a28c0fd40cc64aa6a9dab7d3ee11c767098458567c75199ca8454976a"), looks := true }, kinds := [], alts := [], laidByText := true, laidKinds := [.data, .data, .data, .data, .sentinel, .sentinel, .pinned], laidTests := true, laidLooks := .later }
def FnReachedUptoCardSaid : Prop := Claim7.holds Tryz.pinned (.plain (OpenSpec.upto fnReachedSpec)) fnReachedUptoCard
end Rows
end Go.Proofs.YtbacjgkmkkphdaaGreatDoor
