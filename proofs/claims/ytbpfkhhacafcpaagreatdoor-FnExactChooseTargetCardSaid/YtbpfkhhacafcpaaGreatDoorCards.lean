/-
  DERIVED. GIVEN WITH THE SEED: THE CARDS: each row of YtbpfkhhacafcpaaGreatDoorRows.lean that lists a variable, with what it lists TIED to the program's text (the seventh form; the later family's looks); each row that meets fmt, with fmt's text TOLD by the authors' own Lean function (tested against real Go, not proved from fmt's source: count such statements apart). THE CARD IS WHAT COUNTS. Prove the row's statement (the work); the ties are given (YtbpfkhhacafcpaaGreatDoorTie.lean); close each card by the builder's one call (the guide's Derived/Test/ToyasCard.lean, 'card_holds'). Laid BY PROGRAM, IN A SANDBOX (cutbox-door.mjs). By AI agents, Wed Nov 11 2026. No macro, syntax, notation, axiom, sorry.
-/
import Derived.Test.YtbpfkhhacafcpaaGreatDoorRows
import GoSem.ClaimSeven
namespace Go.Proofs.YtbpfkhhacafcpaaGreatDoor
namespace Rows

/-- THE TIED CARD OF 'laws.FnExactGroupsIn'. -/
def fnExactGroupsInCard : Claim7 := { stood := { row := fnExactGroupsInRow, standIns := [], harness := (true, "7c876714d47a572155860c62f29182ebe8bc7da2dc5d66a0fb60e9445b444738"), looks := true }, kinds := [], alts := [], laidByText := true, laidKinds := [.data, .data, .data, .data, .sentinel, .sentinel, .pinned], laidTests := true, laidLooks := .later }
def FnExactGroupsInCardSaid : Prop := Claim7.holds Tryz.pinned (.plain (OpenSpec.ofChange fnExactGroupsInSpec)) fnExactGroupsInCard

/-- THE TIED CARD OF 'laws.FnExactGroupOf'. -/
def fnExactGroupOfCard : Claim7 := { stood := { row := fnExactGroupOfRow, standIns := [], harness := (true, "7c876714d47a572155860c62f29182ebe8bc7da2dc5d66a0fb60e9445b444738"), looks := true }, kinds := [], alts := [], laidByText := true, laidKinds := [.data, .data, .data, .data, .sentinel, .sentinel, .pinned], laidTests := true, laidLooks := .later }
def FnExactGroupOfCardSaid : Prop := Claim7.holds Tryz.pinned (.plain (OpenSpec.ofChange fnExactGroupOfSpec)) fnExactGroupOfCard

/-- THE TIED CARD OF 'laws.FnExactCandidatesOf'. -/
def fnExactCandidatesOfCard : Claim7 := { stood := { row := fnExactCandidatesOfRow, standIns := [], harness := (true, "7c876714d47a572155860c62f29182ebe8bc7da2dc5d66a0fb60e9445b444738"), looks := true }, kinds := [], alts := [], laidByText := true, laidKinds := [.data, .data, .data, .data, .sentinel, .sentinel, .pinned], laidTests := true, laidLooks := .later }
def FnExactCandidatesOfCardSaid : Prop := Claim7.holds Tryz.pinned (.plain (OpenSpec.ofChange fnExactCandidatesOfSpec)) fnExactCandidatesOfCard

/-- THE TIED CARD OF 'laws.FnExactSharesOf'. -/
def fnExactSharesOfCard : Claim7 := { stood := { row := fnExactSharesOfRow, standIns := [], harness := (true, "7c876714d47a572155860c62f29182ebe8bc7da2dc5d66a0fb60e9445b444738"), looks := true }, kinds := [], alts := [], laidByText := true, laidKinds := [.data, .data, .data, .data, .sentinel, .sentinel, .pinned], laidTests := true, laidLooks := .later }
def FnExactSharesOfCardSaid : Prop := Claim7.holds Tryz.pinned (.plain (OpenSpec.ofChange fnExactSharesOfSpec)) fnExactSharesOfCard

/-- THE TIED CARD OF 'laws.FnExactChooseTarget'. -/
def fnExactChooseTargetCard : Claim7 := { stood := { row := fnExactChooseTargetRow, standIns := [], harness := (true, "7c876714d47a572155860c62f29182ebe8bc7da2dc5d66a0fb60e9445b444738"), looks := true }, kinds := [], alts := [], laidByText := true, laidKinds := [.data, .data, .data, .data, .sentinel, .sentinel, .pinned], laidTests := true, laidLooks := .later }
def FnExactChooseTargetCardSaid : Prop := Claim7.holds Tryz.pinned (.plain (OpenSpec.ofChange fnExactChooseTargetSpec)) fnExactChooseTargetCard

/-- THE TIED CARD OF 'laws.FnExactAnswerOf'. -/
def fnExactAnswerOfCard : Claim7 := { stood := { row := fnExactAnswerOfRow, standIns := [], harness := (true, "7c876714d47a572155860c62f29182ebe8bc7da2dc5d66a0fb60e9445b444738"), looks := true }, kinds := [], alts := [], laidByText := true, laidKinds := [.data, .data, .data, .data, .sentinel, .sentinel, .pinned], laidTests := true, laidLooks := .later }
def FnExactAnswerOfCardSaid : Prop := Claim7.holds Tryz.pinned (.plain (OpenSpec.ofChange fnExactAnswerOfSpec)) fnExactAnswerOfCard

/-- THE SECOND FORM's CARD OF 'laws.FnExactGroupsIn'. -/
def fnExactGroupsInUptoCard : Claim7 := { stood := { row := fnExactGroupsInUptoRow, standIns := [], harness := (true, "7c876714d47a572155860c62f29182ebe8bc7da2dc5d66a0fb60e9445b444738"), looks := true }, kinds := [], alts := [], laidByText := true, laidKinds := [.data, .data, .data, .data, .sentinel, .sentinel, .pinned], laidTests := true, laidLooks := .later }
def FnExactGroupsInUptoCardSaid : Prop := Claim7.holds Tryz.pinned (.plain (OpenSpec.upto fnExactGroupsInSpec)) fnExactGroupsInUptoCard

/-- THE SECOND FORM's CARD OF 'laws.FnExactGroupOf'. -/
def fnExactGroupOfUptoCard : Claim7 := { stood := { row := fnExactGroupOfUptoRow, standIns := [], harness := (true, "7c876714d47a572155860c62f29182ebe8bc7da2dc5d66a0fb60e9445b444738"), looks := true }, kinds := [], alts := [], laidByText := true, laidKinds := [.data, .data, .data, .data, .sentinel, .sentinel, .pinned], laidTests := true, laidLooks := .later }
def FnExactGroupOfUptoCardSaid : Prop := Claim7.holds Tryz.pinned (.plain (OpenSpec.upto fnExactGroupOfSpec)) fnExactGroupOfUptoCard

/-- THE SECOND FORM's CARD OF 'laws.FnExactCandidatesOf'. -/
def fnExactCandidatesOfUptoCard : Claim7 := { stood := { row := fnExactCandidatesOfUptoRow, standIns := [], harness := (true, "7c876714d47a572155860c62f29182ebe8bc7da2dc5d66a0fb60e9445b444738"), looks := true }, kinds := [], alts := [], laidByText := true, laidKinds := [.data, .data, .data, .data, .sentinel, .sentinel, .pinned], laidTests := true, laidLooks := .later }
def FnExactCandidatesOfUptoCardSaid : Prop := Claim7.holds Tryz.pinned (.plain (OpenSpec.upto fnExactCandidatesOfSpec)) fnExactCandidatesOfUptoCard

/-- THE SECOND FORM's CARD OF 'laws.FnExactSharesOf'. -/
def fnExactSharesOfUptoCard : Claim7 := { stood := { row := fnExactSharesOfUptoRow, standIns := [], harness := (true, "7c876714d47a572155860c62f29182ebe8bc7da2dc5d66a0fb60e9445b444738"), looks := true }, kinds := [], alts := [], laidByText := true, laidKinds := [.data, .data, .data, .data, .sentinel, .sentinel, .pinned], laidTests := true, laidLooks := .later }
def FnExactSharesOfUptoCardSaid : Prop := Claim7.holds Tryz.pinned (.plain (OpenSpec.upto fnExactSharesOfSpec)) fnExactSharesOfUptoCard

/-- THE SECOND FORM's CARD OF 'laws.FnExactChooseTarget'. -/
def fnExactChooseTargetUptoCard : Claim7 := { stood := { row := fnExactChooseTargetUptoRow, standIns := [], harness := (true, "7c876714d47a572155860c62f29182ebe8bc7da2dc5d66a0fb60e9445b444738"), looks := true }, kinds := [], alts := [], laidByText := true, laidKinds := [.data, .data, .data, .data, .sentinel, .sentinel, .pinned], laidTests := true, laidLooks := .later }
def FnExactChooseTargetUptoCardSaid : Prop := Claim7.holds Tryz.pinned (.plain (OpenSpec.upto fnExactChooseTargetSpec)) fnExactChooseTargetUptoCard

/-- THE SECOND FORM's CARD OF 'laws.FnExactAnswerOf'. -/
def fnExactAnswerOfUptoCard : Claim7 := { stood := { row := fnExactAnswerOfUptoRow, standIns := [], harness := (true, "7c876714d47a572155860c62f29182ebe8bc7da2dc5d66a0fb60e9445b444738"), looks := true }, kinds := [], alts := [], laidByText := true, laidKinds := [.data, .data, .data, .data, .sentinel, .sentinel, .pinned], laidTests := true, laidLooks := .later }
def FnExactAnswerOfUptoCardSaid : Prop := Claim7.holds Tryz.pinned (.plain (OpenSpec.upto fnExactAnswerOfSpec)) fnExactAnswerOfUptoCard
end Rows
end Go.Proofs.YtbpfkhhacafcpaaGreatDoor
