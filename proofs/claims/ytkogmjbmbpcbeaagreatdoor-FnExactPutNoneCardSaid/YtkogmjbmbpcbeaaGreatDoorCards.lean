/-
  DERIVED. GIVEN WITH THE SEED: THE CARDS: each row of YtkogmjbmbpcbeaaGreatDoorRows.lean that lists a variable, with what it lists TIED to the program's text (the seventh form; the later family's looks); each row that meets fmt, with fmt's text TOLD by the authors' own Lean function (tested against real Go, not proved from fmt's source: count such statements apart). THE CARD IS WHAT COUNTS. Prove the row's statement (the work); the ties are given (YtkogmjbmbpcbeaaGreatDoorTie.lean); close each card by the builder's one call (the guide's Derived/Test/ToyasCard.lean, 'card_holds'). Laid BY PROGRAM, IN A SANDBOX (cutbox-door.mjs). By AI agents, Wed Nov 11 2026. No macro, syntax, notation, axiom, sorry.
-/
import Derived.Test.YtkogmjbmbpcbeaaGreatDoorRows
import GoSem.ClaimSeven
namespace Go.Proofs.YtkogmjbmbpcbeaaGreatDoor
namespace Rows

/-- THE TIED CARD OF 'laws.FnExactPutAnswer'. -/
def fnExactPutAnswerCard : Claim7 := { stood := { row := fnExactPutAnswerRow, standIns := [], harness := (true, "0b60befc0cfcb1957af20e89dbb94ec194c1dc3b10dc45910ada77ee98fe0893"), looks := true }, kinds := [], alts := [], laidByText := true, laidKinds := [.data, .data, .data, .data, .sentinel, .sentinel, .pinned], laidTests := true, laidLooks := .later }
def FnExactPutAnswerCardSaid : Prop := Claim7.holds Tryz.pinned (.plain (OpenSpec.ofChange fnExactPutAnswerSpec)) fnExactPutAnswerCard

/-- THE TIED CARD OF 'laws.FnExactPutNone'. -/
def fnExactPutNoneCard : Claim7 := { stood := { row := fnExactPutNoneRow, standIns := [], harness := (true, "0b60befc0cfcb1957af20e89dbb94ec194c1dc3b10dc45910ada77ee98fe0893"), looks := true }, kinds := [], alts := [], laidByText := true, laidKinds := [.data, .data, .data, .data, .sentinel, .sentinel, .pinned], laidTests := true, laidLooks := .later }
def FnExactPutNoneCardSaid : Prop := Claim7.holds Tryz.pinned (.plain (OpenSpec.ofChange fnExactPutNoneSpec)) fnExactPutNoneCard

/-- THE SECOND FORM's CARD OF 'laws.FnExactPutAnswer'. -/
def fnExactPutAnswerUptoCard : Claim7 := { stood := { row := fnExactPutAnswerUptoRow, standIns := [], harness := (true, "0b60befc0cfcb1957af20e89dbb94ec194c1dc3b10dc45910ada77ee98fe0893"), looks := true }, kinds := [], alts := [], laidByText := true, laidKinds := [.data, .data, .data, .data, .sentinel, .sentinel, .pinned], laidTests := true, laidLooks := .later }
def FnExactPutAnswerUptoCardSaid : Prop := Claim7.holds Tryz.pinned (.plain (OpenSpec.upto fnExactPutAnswerSpec)) fnExactPutAnswerUptoCard

/-- THE SECOND FORM's CARD OF 'laws.FnExactPutNone'. -/
def fnExactPutNoneUptoCard : Claim7 := { stood := { row := fnExactPutNoneUptoRow, standIns := [], harness := (true, "0b60befc0cfcb1957af20e89dbb94ec194c1dc3b10dc45910ada77ee98fe0893"), looks := true }, kinds := [], alts := [], laidByText := true, laidKinds := [.data, .data, .data, .data, .sentinel, .sentinel, .pinned], laidTests := true, laidLooks := .later }
def FnExactPutNoneUptoCardSaid : Prop := Claim7.holds Tryz.pinned (.plain (OpenSpec.upto fnExactPutNoneSpec)) fnExactPutNoneUptoCard
end Rows
end Go.Proofs.YtkogmjbmbpcbeaaGreatDoor
