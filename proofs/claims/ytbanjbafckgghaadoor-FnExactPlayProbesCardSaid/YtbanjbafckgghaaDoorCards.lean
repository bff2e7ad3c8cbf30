/-
  DERIVED. GIVEN WITH THE SEED: THE CARDS: each row of YtbanjbafckgghaaDoorRows.lean that lists a variable, with what it lists TIED to the program's text (the seventh form; the later family's looks); each row that meets fmt, with fmt's text TOLD by the authors' own Lean function (tested against real Go, not proved from fmt's source: count such statements apart). THE CARD IS WHAT COUNTS. Prove the row's statement (the work); the ties are given (YtbanjbafckgghaaDoorTie.lean); close each card by the builder's one call (the guide's Derived/Test/ToyasCard.lean, 'card_holds'). Laid BY PROGRAM, IN A SANDBOX (cutbox-door.mjs). By AI agents, Wed Nov 11 2026. No macro, syntax, notation, axiom, sorry.
-/
import Derived.Test.YtbanjbafckgghaaDoorRows
import GoSem.ClaimSeven
namespace Go.Proofs.YtbanjbafckgghaaDoor
namespace Rows

/-- THE TIED CARD OF 'laws.FnRows'. -/
def fnRowsCard : Claim7 := { stood := { row := fnRowsRow, standIns := [], harness := (true, "865cb4693a65be87308e31826035fb1bec60ce4e6878ca8bb3dc81d887cabbac"), looks := false }, kinds := [], alts := [], laidByText := true, laidKinds := [.data, .pinned], laidTests := true, laidLooks := .later }
def FnRowsCardSaid : Prop := Claim7.holds Tryd.pinned (.plain (OpenSpec.ofChange fnRowsSpec)) fnRowsCard

/-- THE TIED CARD OF 'laws.FnExactTakeProbe'. -/
def fnExactTakeProbeCard : Claim7 := { stood := { row := fnExactTakeProbeRow, standIns := [], harness := (true, "865cb4693a65be87308e31826035fb1bec60ce4e6878ca8bb3dc81d887cabbac"), looks := false }, kinds := [], alts := [], laidByText := true, laidKinds := [.data, .pinned], laidTests := true, laidLooks := .later }
def FnExactTakeProbeCardSaid : Prop := Claim7.holds Tryd.pinned (.plain (OpenSpec.ofChange fnExactTakeProbeSpec)) fnExactTakeProbeCard

/-- THE TIED CARD OF 'laws.FnProbes'. -/
def fnProbesCard : Claim7 := { stood := { row := fnProbesRow, standIns := [], harness := (true, "865cb4693a65be87308e31826035fb1bec60ce4e6878ca8bb3dc81d887cabbac"), looks := false }, kinds := [], alts := [], laidByText := true, laidKinds := [.data, .pinned], laidTests := true, laidLooks := .later }
def FnProbesCardSaid : Prop := Claim7.holds Tryd.pinned (.plain (OpenSpec.ofChange fnProbesSpec)) fnProbesCard

/-- THE TIED CARD OF 'laws.FnExactPlayProbes'. -/
def fnExactPlayProbesCard : Claim7 := { stood := { row := fnExactPlayProbesRow, standIns := [], harness := (true, "865cb4693a65be87308e31826035fb1bec60ce4e6878ca8bb3dc81d887cabbac"), looks := false }, kinds := [], alts := [], laidByText := true, laidKinds := [.data, .pinned], laidTests := true, laidLooks := .later }
def FnExactPlayProbesCardSaid : Prop := Claim7.holds Tryd.pinned (.plain (OpenSpec.ofChange fnExactPlayProbesSpec)) fnExactPlayProbesCard

/-- THE SECOND FORM's CARD OF 'laws.FnRows'. -/
def fnRowsUptoCard : Claim7 := { stood := { row := fnRowsUptoRow, standIns := [], harness := (true, "865cb4693a65be87308e31826035fb1bec60ce4e6878ca8bb3dc81d887cabbac"), looks := false }, kinds := [], alts := [], laidByText := true, laidKinds := [.data, .pinned], laidTests := true, laidLooks := .later }
def FnRowsUptoCardSaid : Prop := Claim7.holds Tryd.pinned (.plain (OpenSpec.upto fnRowsSpec)) fnRowsUptoCard

/-- THE SECOND FORM's CARD OF 'laws.FnExactTakeProbe'. -/
def fnExactTakeProbeUptoCard : Claim7 := { stood := { row := fnExactTakeProbeUptoRow, standIns := [], harness := (true, "865cb4693a65be87308e31826035fb1bec60ce4e6878ca8bb3dc81d887cabbac"), looks := false }, kinds := [], alts := [], laidByText := true, laidKinds := [.data, .pinned], laidTests := true, laidLooks := .later }
def FnExactTakeProbeUptoCardSaid : Prop := Claim7.holds Tryd.pinned (.plain (OpenSpec.upto fnExactTakeProbeSpec)) fnExactTakeProbeUptoCard

/-- THE SECOND FORM's CARD OF 'laws.FnProbes'. -/
def fnProbesUptoCard : Claim7 := { stood := { row := fnProbesUptoRow, standIns := [], harness := (true, "865cb4693a65be87308e31826035fb1bec60ce4e6878ca8bb3dc81d887cabbac"), looks := false }, kinds := [], alts := [], laidByText := true, laidKinds := [.data, .pinned], laidTests := true, laidLooks := .later }
def FnProbesUptoCardSaid : Prop := Claim7.holds Tryd.pinned (.plain (OpenSpec.upto fnProbesSpec)) fnProbesUptoCard

/-- THE SECOND FORM's CARD OF 'laws.FnExactPlayProbes'. -/
def fnExactPlayProbesUptoCard : Claim7 := { stood := { row := fnExactPlayProbesUptoRow, standIns := [], harness := (true, "865cb4693a65be87308e31826035fb1bec60ce4e6878ca8bb3dc81d887cabbac"), looks := false }, kinds := [], alts := [], laidByText := true, laidKinds := [.data, .pinned], laidTests := true, laidLooks := .later }
def FnExactPlayProbesUptoCardSaid : Prop := Claim7.holds Tryd.pinned (.plain (OpenSpec.upto fnExactPlayProbesSpec)) fnExactPlayProbesUptoCard
end Rows
end Go.Proofs.YtbanjbafckgghaaDoor
