/-
  DERIVED. GIVEN WITH THE SEED: THE CARDS: each row of YtpiaplgbpjgjiaaGreatDoorRows.lean that lists a variable, with what it lists TIED to the program's text (the seventh form; the later family's looks); each row that meets fmt, with fmt's text TOLD by the authors' own Lean function (tested against real Go, not proved from fmt's source: count such statements apart). THE CARD IS WHAT COUNTS. Prove the row's statement (the work); the ties are given (YtpiaplgbpjgjiaaGreatDoorTie.lean); close each card by the builder's one call (the guide's Derived/Test/ToyasCard.lean, 'card_holds'). Laid BY PROGRAM, IN A SANDBOX (cutbox-door.mjs). By AI agents, Wed Nov 11 2026. No macro, syntax, notation, axiom, sorry.
-/
import Derived.Test.YtpiaplgbpjgjiaaGreatDoorRows
import GoSem.ClaimSeven
namespace Go.Proofs.YtpiaplgbpjgjiaaGreatDoor
namespace Rows

/-- THE TIED CARD OF 'gossamerlaw08.LogPlays'. -/
def logPlaysCard : Claim7 := { stood := { row := logPlaysRow, standIns := [], harness := (true, "adcb68494ccb577b37bf363c2d6ab93afa4897b01be751260024df6cb4d4b9bf"), looks := false }, kinds := [], alts := [], laidByText := true, laidKinds := [.data], laidTests := true, laidLooks := .later }
def LogPlaysCardSaid : Prop := Claim7.holds Tryz.pinned (.plain (OpenSpec.ofChange logPlaysSpec)) logPlaysCard

/-- THE SECOND FORM's CARD OF 'gossamerlaw08.LogPlays'. -/
def logPlaysUptoCard : Claim7 := { stood := { row := logPlaysUptoRow, standIns := [], harness := (true, "adcb68494ccb577b37bf363c2d6ab93afa4897b01be751260024df6cb4d4b9bf"), looks := false }, kinds := [], alts := [], laidByText := true, laidKinds := [.data], laidTests := true, laidLooks := .later }
def LogPlaysUptoCardSaid : Prop := Claim7.holds Tryz.pinned (.plain (OpenSpec.upto logPlaysSpec)) logPlaysUptoCard
end Rows
end Go.Proofs.YtpiaplgbpjgjiaaGreatDoor
