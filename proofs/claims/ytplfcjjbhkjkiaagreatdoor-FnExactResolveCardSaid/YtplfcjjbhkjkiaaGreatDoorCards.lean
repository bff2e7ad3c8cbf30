/-
  DERIVED. GIVEN WITH THE SEED: THE CARDS: each row of YtplfcjjbhkjkiaaGreatDoorRows.lean that lists a variable, with what it lists TIED to the program's text (the seventh form; the later family's looks); each row that meets fmt, with fmt's text TOLD by the authors' own Lean function (tested against real Go, not proved from fmt's source: count such statements apart). THE CARD IS WHAT COUNTS. Prove the row's statement (the work); the ties are given (YtplfcjjbhkjkiaaGreatDoorTie.lean); close each card by the builder's one call (the guide's Derived/Test/ToyasCard.lean, 'card_holds'). Laid BY PROGRAM, IN A SANDBOX (cutbox-door.mjs). By AI agents, Wed Nov 11 2026. No macro, syntax, notation, axiom, sorry.
-/
import Derived.Test.YtplfcjjbhkjkiaaGreatDoorRows
import GoSem.ClaimSeven
namespace Go.Proofs.YtplfcjjbhkjkiaaGreatDoor
namespace Rows

/-- THE TIED CARD OF 'laws.FnExactAnswerTo'. -/
def fnExactAnswerToCard : Claim7 := { stood := { row := fnExactAnswerToRow, standIns := [], harness := (true, "107133d1223a0857482af98910258b25035da43da7d50aa6d526ab0ef5c0c255"), looks := true }, kinds := [], alts := [], laidByText := true, laidKinds := [.data, .data, .data, .data, .sentinel, .sentinel, .pinned], laidTests := true, laidLooks := .later }
def FnExactAnswerToCardSaid : Prop := Claim7.holds Tryz.pinned (.plain (OpenSpec.ofChange fnExactAnswerToSpec)) fnExactAnswerToCard

/-- THE TIED CARD OF 'laws.FnExactIsDelegated'. -/
def fnExactIsDelegatedCard : Claim7 := { stood := { row := fnExactIsDelegatedRow, standIns := [], harness := (true, "107133d1223a0857482af98910258b25035da43da7d50aa6d526ab0ef5c0c255"), looks := true }, kinds := [], alts := [], laidByText := true, laidKinds := [.data, .data, .data, .data, .sentinel, .sentinel, .pinned], laidTests := true, laidLooks := .later }
def FnExactIsDelegatedCardSaid : Prop := Claim7.holds Tryz.pinned (.plain (OpenSpec.ofChange fnExactIsDelegatedSpec)) fnExactIsDelegatedCard

/-- THE TIED CARD OF 'laws.FnExactReachedBy'. -/
def fnExactReachedByCard : Claim7 := { stood := { row := fnExactReachedByRow, standIns := [], harness := (true, "107133d1223a0857482af98910258b25035da43da7d50aa6d526ab0ef5c0c255"), looks := true }, kinds := [], alts := [], laidByText := true, laidKinds := [.data, .data, .data, .data, .sentinel, .sentinel, .pinned], laidTests := true, laidLooks := .later }
def FnExactReachedByCardSaid : Prop := Claim7.holds Tryz.pinned (.plain (OpenSpec.ofChange fnExactReachedBySpec)) fnExactReachedByCard

/-- THE TIED CARD OF 'laws.FnExactAskFrom'. -/
def fnExactAskFromCard : Claim7 := { stood := { row := fnExactAskFromRow, standIns := [], harness := (true, "107133d1223a0857482af98910258b25035da43da7d50aa6d526ab0ef5c0c255"), looks := true }, kinds := [], alts := [], laidByText := true, laidKinds := [.data, .data, .data, .data, .sentinel, .sentinel, .pinned], laidTests := true, laidLooks := .later }
def FnExactAskFromCardSaid : Prop := Claim7.holds Tryz.pinned (.plain (OpenSpec.ofChange fnExactAskFromSpec)) fnExactAskFromCard

/-- THE TIED CARD OF 'laws.FnExactResolve'. -/
def fnExactResolveCard : Claim7 := { stood := { row := fnExactResolveRow, standIns := [], harness := (true, "107133d1223a0857482af98910258b25035da43da7d50aa6d526ab0ef5c0c255"), looks := true }, kinds := [], alts := [], laidByText := true, laidKinds := [.data, .data, .data, .data, .sentinel, .sentinel, .pinned], laidTests := true, laidLooks := .later }
def FnExactResolveCardSaid : Prop := Claim7.holds Tryz.pinned (.plain (OpenSpec.ofChange fnExactResolveSpec)) fnExactResolveCard

/-- THE SECOND FORM's CARD OF 'laws.FnExactAnswerTo'. -/
def fnExactAnswerToUptoCard : Claim7 := { stood := { row := fnExactAnswerToUptoRow, standIns := [], harness := (true, "107133d1223a0857482af98910258b25035da43da7d50aa6d526ab0ef5c0c255"), looks := true }, kinds := [], alts := [], laidByText := true, laidKinds := [.data, .data, .data, .data, .sentinel, .sentinel, .pinned], laidTests := true, laidLooks := .later }
def FnExactAnswerToUptoCardSaid : Prop := Claim7.holds Tryz.pinned (.plain (OpenSpec.upto fnExactAnswerToSpec)) fnExactAnswerToUptoCard

/-- THE SECOND FORM's CARD OF 'laws.FnExactIsDelegated'. -/
def fnExactIsDelegatedUptoCard : Claim7 := { stood := { row := fnExactIsDelegatedUptoRow, standIns := [], harness := (true, "107133d1223a0857482af98910258b25035da43da7d50aa6d526ab0ef5c0c255"), looks := true }, kinds := [], alts := [], laidByText := true, laidKinds := [.data, .data, .data, .data, .sentinel, .sentinel, .pinned], laidTests := true, laidLooks := .later }
def FnExactIsDelegatedUptoCardSaid : Prop := Claim7.holds Tryz.pinned (.plain (OpenSpec.upto fnExactIsDelegatedSpec)) fnExactIsDelegatedUptoCard

/-- THE SECOND FORM's CARD OF 'laws.FnExactReachedBy'. -/
def fnExactReachedByUptoCard : Claim7 := { stood := { row := fnExactReachedByUptoRow, standIns := [], harness := (true, "107133d1223a0857482af98910258b25035da43da7d50aa6d526ab0ef5c0c255"), looks := true }, kinds := [], alts := [], laidByText := true, laidKinds := [.data, .data, .data, .data, .sentinel, .sentinel, .pinned], laidTests := true, laidLooks := .later }
def FnExactReachedByUptoCardSaid : Prop := Claim7.holds Tryz.pinned (.plain (OpenSpec.upto fnExactReachedBySpec)) fnExactReachedByUptoCard

/-- THE SECOND FORM's CARD OF 'laws.FnExactAskFrom'. -/
def fnExactAskFromUptoCard : Claim7 := { stood := { row := fnExactAskFromUptoRow, standIns := [], harness := (true, "107133d1223a0857482af98910258b25035da43da7d50aa6d526ab0ef5c0c255"), looks := true }, kinds := [], alts := [], laidByText := true, laidKinds := [.data, .data, .data, .data, .sentinel, .sentinel, .pinned], laidTests := true, laidLooks := .later }
def FnExactAskFromUptoCardSaid : Prop := Claim7.holds Tryz.pinned (.plain (OpenSpec.upto fnExactAskFromSpec)) fnExactAskFromUptoCard

/-- THE SECOND FORM's CARD OF 'laws.FnExactResolve'. -/
def fnExactResolveUptoCard : Claim7 := { stood := { row := fnExactResolveUptoRow, standIns := [], harness := (true, "107133d1223a0857482af98910258b25035da43da7d50aa6d526ab0ef5c0c255"), looks := true }, kinds := [], alts := [], laidByText := true, laidKinds := [.data, .data, .data, .data, .sentinel, .sentinel, .pinned], laidTests := true, laidLooks := .later }
def FnExactResolveUptoCardSaid : Prop := Claim7.holds Tryz.pinned (.plain (OpenSpec.upto fnExactResolveSpec)) fnExactResolveUptoCard
end Rows
end Go.Proofs.YtplfcjjbhkjkiaaGreatDoor
