/-
  DERIVED. GIVEN WITH THE SEED: THE CARDS: each row of YtjhdjeneblgknaaDoorRows.lean that lists a variable, with what it lists TIED to the program's text (the seventh form; the later family's looks); each row that meets fmt, with fmt's text TOLD by the authors' own Lean function (tested against real Go, not proved from fmt's source: count such statements apart). THE CARD IS WHAT COUNTS. Prove the row's statement (the work); the ties are given (YtjhdjeneblgknaaDoorTie.lean); close each card by the builder's one call (the guide's Derived/Test/ToyasCard.lean, 'card_holds'). Laid BY PROGRAM, IN A SANDBOX (cutbox-door.mjs). By AI agents, Wed Nov 11 2026. No macro, syntax, notation, axiom, sorry.
-/
import Derived.Test.YtjhdjeneblgknaaDoorRows
import GoSem.ClaimSeven
namespace Go.Proofs.YtjhdjeneblgknaaDoor
namespace Rows

/-- THE TIED CARD OF 'gossamerlaw06.FrameTurned'. -/
def frameTurnedCard : Claim7 := { stood := { row := frameTurnedRow, standIns := [], harness := (true, "2a05dbf28263be4691875454f65ee9039a92aee426f2b5672fa76de61c667549"), looks := false }, kinds := [], alts := [], laidByText := true, laidKinds := [.data], laidTests := true, laidLooks := .later }
def FrameTurnedCardSaid : Prop := Claim7.holds Tryd.pinned (.plain (OpenSpec.ofChange frameTurnedSpec)) frameTurnedCard

/-- THE TIED CARD OF 'gossamerlaw06.FrameRest'. -/
def frameRestCard : Claim7 := { stood := { row := frameRestRow, standIns := [], harness := (true, "2a05dbf28263be4691875454f65ee9039a92aee426f2b5672fa76de61c667549"), looks := false }, kinds := [], alts := [], laidByText := true, laidKinds := [.data], laidTests := true, laidLooks := .later }
def FrameRestCardSaid : Prop := Claim7.holds Tryd.pinned (.plain (OpenSpec.ofChange frameRestSpec)) frameRestCard

/-- THE TIED CARD OF 'gossamerlaw06.FrameTells'. -/
def frameTellsCard : Claim7 := { stood := { row := frameTellsRow, standIns := [], harness := (true, "2a05dbf28263be4691875454f65ee9039a92aee426f2b5672fa76de61c667549"), looks := false }, kinds := [], alts := [], laidByText := true, laidKinds := [.data], laidTests := true, laidLooks := .later }
def FrameTellsCardSaid : Prop := Claim7.holds Tryd.pinned (.plain (OpenSpec.ofChange frameTellsSpec)) frameTellsCard

/-- THE TIED CARD OF 'gossamerlaw06.FrameScans'. -/
def frameScansCard : Claim7 := { stood := { row := frameScansRow, standIns := [], harness := (true, "2a05dbf28263be4691875454f65ee9039a92aee426f2b5672fa76de61c667549"), looks := false }, kinds := [], alts := [], laidByText := true, laidKinds := [.data], laidTests := true, laidLooks := .later }
def FrameScansCardSaid : Prop := Claim7.holds Tryd.pinned (.plain (OpenSpec.ofChange frameScansSpec)) frameScansCard

/-- THE TIED CARD OF 'gossamerlaw06.FrameShort'. -/
def frameShortCard : Claim7 := { stood := { row := frameShortRow, standIns := [], harness := (true, "2a05dbf28263be4691875454f65ee9039a92aee426f2b5672fa76de61c667549"), looks := false }, kinds := [], alts := [], laidByText := true, laidKinds := [.data], laidTests := true, laidLooks := .later }
def FrameShortCardSaid : Prop := Claim7.holds Tryd.pinned (.plain (OpenSpec.ofChange frameShortSpec)) frameShortCard

/-- THE SECOND FORM's CARD OF 'gossamerlaw06.FrameTurned'. -/
def frameTurnedUptoCard : Claim7 := { stood := { row := frameTurnedUptoRow, standIns := [], harness := (true, "2a05dbf28263be4691875454f65ee9039a92aee426f2b5672fa76de61c667549"), looks := false }, kinds := [], alts := [], laidByText := true, laidKinds := [.data], laidTests := true, laidLooks := .later }
def FrameTurnedUptoCardSaid : Prop := Claim7.holds Tryd.pinned (.plain (OpenSpec.upto frameTurnedSpec)) frameTurnedUptoCard

/-- THE SECOND FORM's CARD OF 'gossamerlaw06.FrameRest'. -/
def frameRestUptoCard : Claim7 := { stood := { row := frameRestUptoRow, standIns := [], harness := (true, "2a05dbf28263be4691875454f65ee9039a92aee426f2b5672fa76de61c667549"), looks := false }, kinds := [], alts := [], laidByText := true, laidKinds := [.data], laidTests := true, laidLooks := .later }
def FrameRestUptoCardSaid : Prop := Claim7.holds Tryd.pinned (.plain (OpenSpec.upto frameRestSpec)) frameRestUptoCard

/-- THE SECOND FORM's CARD OF 'gossamerlaw06.FrameTells'. -/
def frameTellsUptoCard : Claim7 := { stood := { row := frameTellsUptoRow, standIns := [], harness := (true, "2a05dbf28263be4691875454f65ee9039a92aee426f2b5672fa76de61c667549"), looks := false }, kinds := [], alts := [], laidByText := true, laidKinds := [.data], laidTests := true, laidLooks := .later }
def FrameTellsUptoCardSaid : Prop := Claim7.holds Tryd.pinned (.plain (OpenSpec.upto frameTellsSpec)) frameTellsUptoCard

/-- THE SECOND FORM's CARD OF 'gossamerlaw06.FrameScans'. -/
def frameScansUptoCard : Claim7 := { stood := { row := frameScansUptoRow, standIns := [], harness := (true, "2a05dbf28263be4691875454f65ee9039a92aee426f2b5672fa76de61c667549"), looks := false }, kinds := [], alts := [], laidByText := true, laidKinds := [.data], laidTests := true, laidLooks := .later }
def FrameScansUptoCardSaid : Prop := Claim7.holds Tryd.pinned (.plain (OpenSpec.upto frameScansSpec)) frameScansUptoCard

/-- THE SECOND FORM's CARD OF 'gossamerlaw06.FrameShort'. -/
def frameShortUptoCard : Claim7 := { stood := { row := frameShortUptoRow, standIns := [], harness := (true, "2a05dbf28263be4691875454f65ee9039a92aee426f2b5672fa76de61c667549"), looks := false }, kinds := [], alts := [], laidByText := true, laidKinds := [.data], laidTests := true, laidLooks := .later }
def FrameShortUptoCardSaid : Prop := Claim7.holds Tryd.pinned (.plain (OpenSpec.upto frameShortSpec)) frameShortUptoCard
end Rows
end Go.Proofs.YtjhdjeneblgknaaDoor
