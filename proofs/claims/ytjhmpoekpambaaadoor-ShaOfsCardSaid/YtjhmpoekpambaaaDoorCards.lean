/-
  DERIVED. GIVEN WITH THE SEED: THE CARDS: each row of YtjhmpoekpambaaaDoorRows.lean that lists a variable, with what it lists TIED to the program's text (the seventh form; the later family's looks); each row that meets fmt, with fmt's text TOLD by the authors' own Lean function (tested against real Go, not proved from fmt's source: count such statements apart). THE CARD IS WHAT COUNTS. Prove the row's statement (the work); the ties are given (YtjhmpoekpambaaaDoorTie.lean); close each card by the builder's one call (the guide's Derived/Test/ToyasCard.lean, 'card_holds'). Laid BY PROGRAM, IN A SANDBOX (cutbox-door.mjs). By AI agents, Wed Nov 11 2026. No macro, syntax, notation, axiom, sorry.
-/
import Derived.Test.YtjhmpoekpambaaaDoorRows
import GoSem.ClaimSeven
namespace Go.Proofs.YtjhmpoekpambaaaDoor
namespace Rows

/-- THE TIED CARD OF 'gossamerlaw04.ShaOfs'. -/
def shaOfsCard : Claim7 := { stood := { row := shaOfsRow, standIns := [], harness := (true, "55d4840769b9adebc60d7d4ac68321305abea81162d20a11c05028f8439f0ebe"), looks := false }, kinds := [], alts := [], laidByText := true, laidKinds := [.data, .data], laidTests := true, laidLooks := .later }
def ShaOfsCardSaid : Prop := Claim7.holds Tryd.pinned (.plain (OpenSpec.ofChange shaOfsSpec)) shaOfsCard

/-- THE TIED CARD OF 'gossamerlaw04.ShaPieces'. -/
def shaPiecesCard : Claim7 := { stood := { row := shaPiecesRow, standIns := [], harness := (true, "55d4840769b9adebc60d7d4ac68321305abea81162d20a11c05028f8439f0ebe"), looks := false }, kinds := [], alts := [], laidByText := true, laidKinds := [.data, .data], laidTests := true, laidLooks := .later }
def ShaPiecesCardSaid : Prop := Claim7.holds Tryd.pinned (.plain (OpenSpec.ofChange shaPiecesSpec)) shaPiecesCard

/-- THE TIED CARD OF 'gossamerlaw04.ShaPairs'. -/
def shaPairsCard : Claim7 := { stood := { row := shaPairsRow, standIns := [], harness := (true, "55d4840769b9adebc60d7d4ac68321305abea81162d20a11c05028f8439f0ebe"), looks := false }, kinds := [], alts := [], laidByText := true, laidKinds := [.data, .data], laidTests := true, laidLooks := .later }
def ShaPairsCardSaid : Prop := Claim7.holds Tryd.pinned (.plain (OpenSpec.ofChange shaPairsSpec)) shaPairsCard

/-- THE TIED CARD OF 'gossamerlaw04.ShaLong'. -/
def shaLongCard : Claim7 := { stood := { row := shaLongRow, standIns := [], harness := (true, "55d4840769b9adebc60d7d4ac68321305abea81162d20a11c05028f8439f0ebe"), looks := false }, kinds := [], alts := [], laidByText := true, laidKinds := [.data, .data], laidTests := true, laidLooks := .later }
def ShaLongCardSaid : Prop := Claim7.holds Tryd.pinned (.plain (OpenSpec.ofChange shaLongSpec)) shaLongCard

/-- THE SECOND FORM's CARD OF 'gossamerlaw04.ShaOfs'. -/
def shaOfsUptoCard : Claim7 := { stood := { row := shaOfsUptoRow, standIns := [], harness := (true, "55d4840769b9adebc60d7d4ac68321305abea81162d20a11c05028f8439f0ebe"), looks := false }, kinds := [], alts := [], laidByText := true, laidKinds := [.data, .data], laidTests := true, laidLooks := .later }
def ShaOfsUptoCardSaid : Prop := Claim7.holds Tryd.pinned (.plain (OpenSpec.upto shaOfsSpec)) shaOfsUptoCard

/-- THE SECOND FORM's CARD OF 'gossamerlaw04.ShaPieces'. -/
def shaPiecesUptoCard : Claim7 := { stood := { row := shaPiecesUptoRow, standIns := [], harness := (true, "55d4840769b9adebc60d7d4ac68321305abea81162d20a11c05028f8439f0ebe"), looks := false }, kinds := [], alts := [], laidByText := true, laidKinds := [.data, .data], laidTests := true, laidLooks := .later }
def ShaPiecesUptoCardSaid : Prop := Claim7.holds Tryd.pinned (.plain (OpenSpec.upto shaPiecesSpec)) shaPiecesUptoCard

/-- THE SECOND FORM's CARD OF 'gossamerlaw04.ShaPairs'. -/
def shaPairsUptoCard : Claim7 := { stood := { row := shaPairsUptoRow, standIns := [], harness := (true, "55d4840769b9adebc60d7d4ac68321305abea81162d20a11c05028f8439f0ebe"), looks := false }, kinds := [], alts := [], laidByText := true, laidKinds := [.data, .data], laidTests := true, laidLooks := .later }
def ShaPairsUptoCardSaid : Prop := Claim7.holds Tryd.pinned (.plain (OpenSpec.upto shaPairsSpec)) shaPairsUptoCard

/-- THE SECOND FORM's CARD OF 'gossamerlaw04.ShaLong'. -/
def shaLongUptoCard : Claim7 := { stood := { row := shaLongUptoRow, standIns := [], harness := (true, "55d4840769b9adebc60d7d4ac68321305abea81162d20a11c05028f8439f0ebe"), looks := false }, kinds := [], alts := [], laidByText := true, laidKinds := [.data, .data], laidTests := true, laidLooks := .later }
def ShaLongUptoCardSaid : Prop := Claim7.holds Tryd.pinned (.plain (OpenSpec.upto shaLongSpec)) shaLongUptoCard
end Rows
end Go.Proofs.YtjhmpoekpambaaaDoor
