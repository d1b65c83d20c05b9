/-
  DERIVED. GIVEN WITH THE SEED: THE CARDS: each row of YtpiaplgbpjgjiaaDoorRows.lean that lists a variable, with what it lists TIED to the program's text (the seventh form; the later family's looks); each row that meets fmt, with fmt's text TOLD by the authors' own Lean function (tested against real Go, not proved from fmt's source: count such statements apart). THE CARD IS WHAT COUNTS. Prove the row's statement (the work); the ties are given (YtpiaplgbpjgjiaaDoorTie.lean); close each card by the builder's one call (the guide's Derived/Test/ToyasCard.lean, 'card_holds'). Laid BY PROGRAM, IN A SANDBOX (cutbox-door.mjs). By AI agents, Wed Nov 11 2026. No macro, syntax, notation, axiom, sorry.
-/
import Derived.Test.YtpiaplgbpjgjiaaDoorRows
import GoSem.ClaimSeven
namespace Go.Proofs.YtpiaplgbpjgjiaaDoor
namespace Rows

/-- THE TIED CARD OF 'gossamerlaw08.LogNone'. -/
def logNoneCard : Claim7 := { stood := { row := logNoneRow, standIns := [], harness := (true, "9152a4d4e98b4014a2884d141c2cf4808a7bb0eb4e7e77986d25a893b7f059a7"), looks := false }, kinds := [], alts := [], laidByText := true, laidKinds := [.data], laidTests := true, laidLooks := .later }
def LogNoneCardSaid : Prop := Claim7.holds Tryd.pinned (.plain (OpenSpec.ofChange logNoneSpec)) logNoneCard

/-- THE TIED CARD OF 'gossamerlaw08.LogAgain'. -/
def logAgainCard : Claim7 := { stood := { row := logAgainRow, standIns := [], harness := (true, "9152a4d4e98b4014a2884d141c2cf4808a7bb0eb4e7e77986d25a893b7f059a7"), looks := false }, kinds := [], alts := [], laidByText := true, laidKinds := [.data], laidTests := true, laidLooks := .later }
def LogAgainCardSaid : Prop := Claim7.holds Tryd.pinned (.plain (OpenSpec.ofChange logAgainSpec)) logAgainCard

/-- THE TIED CARD OF 'gossamerlaw08.LogRoom'. -/
def logRoomCard : Claim7 := { stood := { row := logRoomRow, standIns := [], harness := (true, "9152a4d4e98b4014a2884d141c2cf4808a7bb0eb4e7e77986d25a893b7f059a7"), looks := false }, kinds := [], alts := [], laidByText := true, laidKinds := [.data], laidTests := true, laidLooks := .later }
def LogRoomCardSaid : Prop := Claim7.holds Tryd.pinned (.plain (OpenSpec.ofChange logRoomSpec)) logRoomCard

/-- THE TIED CARD OF 'gossamerlaw08.LogKeeps'. -/
def logKeepsCard : Claim7 := { stood := { row := logKeepsRow, standIns := [], harness := (true, "9152a4d4e98b4014a2884d141c2cf4808a7bb0eb4e7e77986d25a893b7f059a7"), looks := false }, kinds := [], alts := [], laidByText := true, laidKinds := [.data], laidTests := true, laidLooks := .later }
def LogKeepsCardSaid : Prop := Claim7.holds Tryd.pinned (.plain (OpenSpec.ofChange logKeepsSpec)) logKeepsCard

/-- THE TIED CARD OF 'gossamerlaw08.LogSpoilt'. -/
def logSpoiltCard : Claim7 := { stood := { row := logSpoiltRow, standIns := [], harness := (true, "9152a4d4e98b4014a2884d141c2cf4808a7bb0eb4e7e77986d25a893b7f059a7"), looks := false }, kinds := [], alts := [], laidByText := true, laidKinds := [.data], laidTests := true, laidLooks := .later }
def LogSpoiltCardSaid : Prop := Claim7.holds Tryd.pinned (.plain (OpenSpec.ofChange logSpoiltSpec)) logSpoiltCard

/-- THE SECOND FORM's CARD OF 'gossamerlaw08.LogNone'. -/
def logNoneUptoCard : Claim7 := { stood := { row := logNoneUptoRow, standIns := [], harness := (true, "9152a4d4e98b4014a2884d141c2cf4808a7bb0eb4e7e77986d25a893b7f059a7"), looks := false }, kinds := [], alts := [], laidByText := true, laidKinds := [.data], laidTests := true, laidLooks := .later }
def LogNoneUptoCardSaid : Prop := Claim7.holds Tryd.pinned (.plain (OpenSpec.upto logNoneSpec)) logNoneUptoCard

/-- THE SECOND FORM's CARD OF 'gossamerlaw08.LogAgain'. -/
def logAgainUptoCard : Claim7 := { stood := { row := logAgainUptoRow, standIns := [], harness := (true, "9152a4d4e98b4014a2884d141c2cf4808a7bb0eb4e7e77986d25a893b7f059a7"), looks := false }, kinds := [], alts := [], laidByText := true, laidKinds := [.data], laidTests := true, laidLooks := .later }
def LogAgainUptoCardSaid : Prop := Claim7.holds Tryd.pinned (.plain (OpenSpec.upto logAgainSpec)) logAgainUptoCard

/-- THE SECOND FORM's CARD OF 'gossamerlaw08.LogRoom'. -/
def logRoomUptoCard : Claim7 := { stood := { row := logRoomUptoRow, standIns := [], harness := (true, "9152a4d4e98b4014a2884d141c2cf4808a7bb0eb4e7e77986d25a893b7f059a7"), looks := false }, kinds := [], alts := [], laidByText := true, laidKinds := [.data], laidTests := true, laidLooks := .later }
def LogRoomUptoCardSaid : Prop := Claim7.holds Tryd.pinned (.plain (OpenSpec.upto logRoomSpec)) logRoomUptoCard

/-- THE SECOND FORM's CARD OF 'gossamerlaw08.LogKeeps'. -/
def logKeepsUptoCard : Claim7 := { stood := { row := logKeepsUptoRow, standIns := [], harness := (true, "9152a4d4e98b4014a2884d141c2cf4808a7bb0eb4e7e77986d25a893b7f059a7"), looks := false }, kinds := [], alts := [], laidByText := true, laidKinds := [.data], laidTests := true, laidLooks := .later }
def LogKeepsUptoCardSaid : Prop := Claim7.holds Tryd.pinned (.plain (OpenSpec.upto logKeepsSpec)) logKeepsUptoCard

/-- THE SECOND FORM's CARD OF 'gossamerlaw08.LogSpoilt'. -/
def logSpoiltUptoCard : Claim7 := { stood := { row := logSpoiltUptoRow, standIns := [], harness := (true, "9152a4d4e98b4014a2884d141c2cf4808a7bb0eb4e7e77986d25a893b7f059a7"), looks := false }, kinds := [], alts := [], laidByText := true, laidKinds := [.data], laidTests := true, laidLooks := .later }
def LogSpoiltUptoCardSaid : Prop := Claim7.holds Tryd.pinned (.plain (OpenSpec.upto logSpoiltSpec)) logSpoiltUptoCard
end Rows
end Go.Proofs.YtpiaplgbpjgjiaaDoor
