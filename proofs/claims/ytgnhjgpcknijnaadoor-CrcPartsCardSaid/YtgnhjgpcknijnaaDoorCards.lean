/-
  DERIVED. GIVEN WITH THE SEED: THE CARDS: each row of YtgnhjgpcknijnaaDoorRows.lean that lists a variable, with what it lists TIED to the program's text (the seventh form; the later family's looks); each row that meets fmt, with fmt's text TOLD by the authors' own Lean function (tested against real Go, not proved from fmt's source: count such statements apart). THE CARD IS WHAT COUNTS. Prove the row's statement (the work); the ties are given (YtgnhjgpcknijnaaDoorTie.lean); close each card by the builder's one call (the guide's Derived/Test/ToyasCard.lean, 'card_holds'). Laid BY PROGRAM, IN A SANDBOX (cutbox-door.mjs). By AI agents, Wed Nov 11 2026. No macro, syntax, notation, axiom, sorry.
-/
import Derived.Test.YtgnhjgpcknijnaaDoorRows
import GoSem.ClaimSeven
namespace Go.Proofs.YtgnhjgpcknijnaaDoor
namespace Rows

/-- THE TIED CARD OF 'gossamerlaw03.CrcOfs'. -/
def crcOfsCard : Claim7 := { stood := { row := crcOfsRow, standIns := [], harness := (true, "d30f0c0db61c4c4a5e4783aa8325f267ed8c2e9d881b0711a570e8bb6ea064c2"), looks := false }, kinds := [], alts := [], laidByText := true, laidKinds := [.data], laidTests := true, laidLooks := .later }
def CrcOfsCardSaid : Prop := Claim7.holds Tryd.pinned (.plain (OpenSpec.ofChange crcOfsSpec)) crcOfsCard

/-- THE TIED CARD OF 'gossamerlaw03.CrcParts'. -/
def crcPartsCard : Claim7 := { stood := { row := crcPartsRow, standIns := [], harness := (true, "d30f0c0db61c4c4a5e4783aa8325f267ed8c2e9d881b0711a570e8bb6ea064c2"), looks := false }, kinds := [], alts := [], laidByText := true, laidKinds := [.data], laidTests := true, laidLooks := .later }
def CrcPartsCardSaid : Prop := Claim7.holds Tryd.pinned (.plain (OpenSpec.ofChange crcPartsSpec)) crcPartsCard

/-- THE TIED CARD OF 'gossamerlaw03.CrcBursts'. -/
def crcBurstsCard : Claim7 := { stood := { row := crcBurstsRow, standIns := [], harness := (true, "d30f0c0db61c4c4a5e4783aa8325f267ed8c2e9d881b0711a570e8bb6ea064c2"), looks := false }, kinds := [], alts := [], laidByText := true, laidKinds := [.data], laidTests := true, laidLooks := .later }
def CrcBurstsCardSaid : Prop := Claim7.holds Tryd.pinned (.plain (OpenSpec.ofChange crcBurstsSpec)) crcBurstsCard

/-- THE TIED CARD OF 'gossamerlaw03.CrcMixed'. -/
def crcMixedCard : Claim7 := { stood := { row := crcMixedRow, standIns := [], harness := (true, "d30f0c0db61c4c4a5e4783aa8325f267ed8c2e9d881b0711a570e8bb6ea064c2"), looks := false }, kinds := [], alts := [], laidByText := true, laidKinds := [.data], laidTests := true, laidLooks := .later }
def CrcMixedCardSaid : Prop := Claim7.holds Tryd.pinned (.plain (OpenSpec.ofChange crcMixedSpec)) crcMixedCard

/-- THE SECOND FORM's CARD OF 'gossamerlaw03.CrcOfs'. -/
def crcOfsUptoCard : Claim7 := { stood := { row := crcOfsUptoRow, standIns := [], harness := (true, "d30f0c0db61c4c4a5e4783aa8325f267ed8c2e9d881b0711a570e8bb6ea064c2"), looks := false }, kinds := [], alts := [], laidByText := true, laidKinds := [.data], laidTests := true, laidLooks := .later }
def CrcOfsUptoCardSaid : Prop := Claim7.holds Tryd.pinned (.plain (OpenSpec.upto crcOfsSpec)) crcOfsUptoCard

/-- THE SECOND FORM's CARD OF 'gossamerlaw03.CrcParts'. -/
def crcPartsUptoCard : Claim7 := { stood := { row := crcPartsUptoRow, standIns := [], harness := (true, "d30f0c0db61c4c4a5e4783aa8325f267ed8c2e9d881b0711a570e8bb6ea064c2"), looks := false }, kinds := [], alts := [], laidByText := true, laidKinds := [.data], laidTests := true, laidLooks := .later }
def CrcPartsUptoCardSaid : Prop := Claim7.holds Tryd.pinned (.plain (OpenSpec.upto crcPartsSpec)) crcPartsUptoCard

/-- THE SECOND FORM's CARD OF 'gossamerlaw03.CrcBursts'. -/
def crcBurstsUptoCard : Claim7 := { stood := { row := crcBurstsUptoRow, standIns := [], harness := (true, "d30f0c0db61c4c4a5e4783aa8325f267ed8c2e9d881b0711a570e8bb6ea064c2"), looks := false }, kinds := [], alts := [], laidByText := true, laidKinds := [.data], laidTests := true, laidLooks := .later }
def CrcBurstsUptoCardSaid : Prop := Claim7.holds Tryd.pinned (.plain (OpenSpec.upto crcBurstsSpec)) crcBurstsUptoCard

/-- THE SECOND FORM's CARD OF 'gossamerlaw03.CrcMixed'. -/
def crcMixedUptoCard : Claim7 := { stood := { row := crcMixedUptoRow, standIns := [], harness := (true, "d30f0c0db61c4c4a5e4783aa8325f267ed8c2e9d881b0711a570e8bb6ea064c2"), looks := false }, kinds := [], alts := [], laidByText := true, laidKinds := [.data], laidTests := true, laidLooks := .later }
def CrcMixedUptoCardSaid : Prop := Claim7.holds Tryd.pinned (.plain (OpenSpec.upto crcMixedSpec)) crcMixedUptoCard
end Rows
end Go.Proofs.YtgnhjgpcknijnaaDoor
