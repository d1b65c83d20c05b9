/-
  NARROWER THAN 'FOR EVERY INPUT', by the rows' own cells (each row's printed sentence says how): FrameTurned: laid · FrameRest: laid · FrameTells: laid · FrameScans: laid · FrameShort: laid.
  DERIVED. THE GIVEN ROWS OF THIS SEAT. 5 by the template 'for every input the law returns true; each argument reads behind the call as it read before'; 0 by the template 'total and deterministic' (their statements: YtjhdjeneblgknaaDoorTotals.lean).
  GIVEN WITH THE SEED: the statements are not yours to turn. If you find one false, say at which input.
  Laid BY PROGRAM, IN A SANDBOX (cutbox-rows.mjs): the forced cells as the released guide's own fill.sh prints them over the translation 5a492f3409c769d1… (all of the seat's roots in one cut). By AI agents, Wed Nov 11 2026. No macro, syntax, notation, axiom, sorry.
-/
import Derived.Test.YtjhdjeneblgknaaDoorChecked
import GoSem.Claim
import GoSem.ClaimJoined
import GoSem.ClaimMapViews
import Derived.JoinedTies
import Derived.KernelRfl
namespace Go.Proofs.YtjhdjeneblgknaaDoor
/- THE CELL 'sum', in the pinned program and in every row, IS THE sha256 OF THE DUMP (.gsa) THAT YtjhdjeneblgknaaDoorProg.lean LOADS. Nothing in Lean hashes anything: it is a label: what it is worth is what the hold of that sum in a sandbox is worth. -/
noncomputable def Tryd.pinned : Pinned := { name := "ytjhdjeneblgknaadoor", sum := "5a492f3409c769d10c64de1beec289d76729ae47e726ddf8f26089e59ea42eb9", checked := Tryd.checked }
namespace Rows
def none {H : Type} : Left H := { results := [], args := [] }

/- WHAT THE LISTED PACKAGE-LEVEL VARIABLES READ AS WHEN THE CALL BEGINS. Each datum BY PROGRAM (the guide's laid-datum.mjs) off the statement by which the dump's own 'gosem.cut.vars' lays the variable. In a bare row this is a premise. The card (YtjhdjeneblgknaaDoorCards.lean) ties it to the program's text. -/
def laid_gossamer_crc_table {H : Type} : DataW H := .agg [.lit (.int .u32 0), .lit (.int .u32 274646895), .lit (.int .u32 549293790), .lit (.int .u32 820201905), .lit (.int .u32 1098587580), .lit (.int .u32 1361435347), .lit (.int .u32 1640403810), .lit (.int .u32 1905808397), .lit (.int .u32 2197175160), .lit (.int .u32 2460548119), .lit (.int .u32 2722870694), .lit (.int .u32 2987750089), .lit (.int .u32 3280807620), .lit (.int .u32 3553878443), .lit (.int .u32 3811616794), .lit (.int .u32 4084100981)]

/-- 'gossamerlaw06.FrameTurned': WHATEVER THE INPUT: true; the input reads as it did. -/
def frameTurnedSpec : ChangeSpec := { name := "frameTurned", fn := fun _ => fun
  | [d1, d2, d3] => { results := [.lit (.bool true)], args := [d1, d2, d3] }
  | _ => none }
def frameTurnedRow : OpenClaim := { program := "ytjhdjeneblgknaadoor", sum := "5a492f3409c769d10c64de1beec289d76729ae47e726ddf8f26089e59ea42eb9", func := "gossamer/gossamerlaw06.FrameTurned", spec := "frameTurned", named := ["gossamer/crc.table"], apart := false, laid := [("gossamer/crc.table", laid_gossamer_crc_table)] }
def FrameTurnedSaid : Prop := frameTurnedRow.holds Tryd.pinned (OpenSpec.ofChange frameTurnedSpec)

/-- ITS FALSE NEIGHBOUR: 'it returns false'. Refute it at one input. -/
def frameTurnedWrong : ChangeSpec := { name := "frameTurned", fn := fun _ => fun
  | [d1, d2, d3] => { results := [.lit (.bool false)], args := [d1, d2, d3] }
  | _ => none }
def FrameTurnedWrongFalsely : Prop := frameTurnedRow.holds Tryd.pinned (OpenSpec.ofChange frameTurnedWrong)

/-- 'gossamerlaw06.FrameRest': WHATEVER THE INPUT: true; the input reads as it did. -/
def frameRestSpec : ChangeSpec := { name := "frameRest", fn := fun _ => fun
  | [d1, d2, d3] => { results := [.lit (.bool true)], args := [d1, d2, d3] }
  | _ => none }
def frameRestRow : OpenClaim := { program := "ytjhdjeneblgknaadoor", sum := "5a492f3409c769d10c64de1beec289d76729ae47e726ddf8f26089e59ea42eb9", func := "gossamer/gossamerlaw06.FrameRest", spec := "frameRest", named := ["gossamer/crc.table"], apart := false, laid := [("gossamer/crc.table", laid_gossamer_crc_table)] }
def FrameRestSaid : Prop := frameRestRow.holds Tryd.pinned (OpenSpec.ofChange frameRestSpec)

/-- ITS FALSE NEIGHBOUR: 'it returns false'. Refute it at one input. -/
def frameRestWrong : ChangeSpec := { name := "frameRest", fn := fun _ => fun
  | [d1, d2, d3] => { results := [.lit (.bool false)], args := [d1, d2, d3] }
  | _ => none }
def FrameRestWrongFalsely : Prop := frameRestRow.holds Tryd.pinned (OpenSpec.ofChange frameRestWrong)

/-- 'gossamerlaw06.FrameTells': WHATEVER THE INPUT: true; the input reads as it did. -/
def frameTellsSpec : ChangeSpec := { name := "frameTells", fn := fun _ => fun
  | [d1, d2] => { results := [.lit (.bool true)], args := [d1, d2] }
  | _ => none }
def frameTellsRow : OpenClaim := { program := "ytjhdjeneblgknaadoor", sum := "5a492f3409c769d10c64de1beec289d76729ae47e726ddf8f26089e59ea42eb9", func := "gossamer/gossamerlaw06.FrameTells", spec := "frameTells", named := ["gossamer/crc.table"], apart := false, laid := [("gossamer/crc.table", laid_gossamer_crc_table)] }
def FrameTellsSaid : Prop := frameTellsRow.holds Tryd.pinned (OpenSpec.ofChange frameTellsSpec)

/-- ITS FALSE NEIGHBOUR: 'it returns false'. Refute it at one input. -/
def frameTellsWrong : ChangeSpec := { name := "frameTells", fn := fun _ => fun
  | [d1, d2] => { results := [.lit (.bool false)], args := [d1, d2] }
  | _ => none }
def FrameTellsWrongFalsely : Prop := frameTellsRow.holds Tryd.pinned (OpenSpec.ofChange frameTellsWrong)

/-- 'gossamerlaw06.FrameScans': WHATEVER THE INPUT: true; the input reads as it did. -/
def frameScansSpec : ChangeSpec := { name := "frameScans", fn := fun _ => fun
  | [d1, d2] => { results := [.lit (.bool true)], args := [d1, d2] }
  | _ => none }
def frameScansRow : OpenClaim := { program := "ytjhdjeneblgknaadoor", sum := "5a492f3409c769d10c64de1beec289d76729ae47e726ddf8f26089e59ea42eb9", func := "gossamer/gossamerlaw06.FrameScans", spec := "frameScans", named := ["gossamer/crc.table"], apart := false, laid := [("gossamer/crc.table", laid_gossamer_crc_table)] }
def FrameScansSaid : Prop := frameScansRow.holds Tryd.pinned (OpenSpec.ofChange frameScansSpec)

/-- ITS FALSE NEIGHBOUR: 'it returns false'. Refute it at one input. -/
def frameScansWrong : ChangeSpec := { name := "frameScans", fn := fun _ => fun
  | [d1, d2] => { results := [.lit (.bool false)], args := [d1, d2] }
  | _ => none }
def FrameScansWrongFalsely : Prop := frameScansRow.holds Tryd.pinned (OpenSpec.ofChange frameScansWrong)

/-- 'gossamerlaw06.FrameShort': WHATEVER THE INPUT: true; the input reads as it did. -/
def frameShortSpec : ChangeSpec := { name := "frameShort", fn := fun _ => fun
  | [d] => { results := [.lit (.bool true)], args := [d] }
  | _ => none }
def frameShortRow : OpenClaim := { program := "ytjhdjeneblgknaadoor", sum := "5a492f3409c769d10c64de1beec289d76729ae47e726ddf8f26089e59ea42eb9", func := "gossamer/gossamerlaw06.FrameShort", spec := "frameShort", named := ["gossamer/crc.table"], apart := false, laid := [("gossamer/crc.table", laid_gossamer_crc_table)] }
def FrameShortSaid : Prop := frameShortRow.holds Tryd.pinned (OpenSpec.ofChange frameShortSpec)

/-- ITS FALSE NEIGHBOUR: 'it returns false'. Refute it at one input. -/
def frameShortWrong : ChangeSpec := { name := "frameShort", fn := fun _ => fun
  | [d] => { results := [.lit (.bool false)], args := [d] }
  | _ => none }
def FrameShortWrongFalsely : Prop := frameShortRow.holds Tryd.pinned (OpenSpec.ofChange frameShortWrong)

/- THE SECOND FORM. 'bulk': how many values and letters a reading holds, each counted each time it is reached (what is shared counts as often as it is met; a slice's spare places count too). A statement '..UptoSaid' is the law's where the arguments, and the package variables that the reading takes, are together of bulk at most 1048576: NARROWER than '..Said'. Prove '..Said' where nothing that the law and all that it calls make is longer than what came in: it says more and counts as full. Else prove '..UptoSaid'. A law counts once. -/
mutual
def uptoBulk {H : Type} : DataW H → Nat
  | .lit (.string bytes) => bytes.length + 1
  | .lit _ => 1
  | .nil => 1
  | .ptr d => uptoBulk d + 1
  | .slice elems spare => uptoBulkAll elems + uptoBulkAll spare + 1
  | .agg parts => uptoBulkAll parts + 1
  | .iface _ d => uptoBulk d + 1
  | .map entries => uptoBulkEntries entries + 1
  | .held _ => 1
def uptoBulkAll {H : Type} : List (DataW H) → Nat
  | [] => 0
  | d :: r => uptoBulk d + uptoBulkAll r
def uptoBulkEntries {H : Type} : List (Lit × DataW H) → Nat
  | [] => 0
  | x :: r => uptoBulkEntry x + uptoBulkEntries r
def uptoBulkEntry {H : Type} : Lit × DataW H → Nat
  | (.string bytes, d) => bytes.length + uptoBulk d + 1
  | (_, d) => uptoBulk d + 1
 end
def uptoSmall : (H : Type) → List (DataW H) → Bool := fun _ ds => decide (uptoBulkAll ds ≤ 1048576)
def OpenSpec.upto (s : _root_.Go.ChangeSpec) : _root_.Go.OpenSpec := { _root_.Go.OpenSpec.ofChange s with cond := some uptoSmall }

/-- 'gossamerlaw06.FrameTurned', WHERE WHAT IT READS IS OF BULK AT MOST 1048576: true; the input reads as it did. -/
def frameTurnedUptoRow : OpenClaim := { program := "ytjhdjeneblgknaadoor", sum := "5a492f3409c769d10c64de1beec289d76729ae47e726ddf8f26089e59ea42eb9", func := "gossamer/gossamerlaw06.FrameTurned", spec := "frameTurned", named := ["gossamer/crc.table"], apart := false, laid := [("gossamer/crc.table", laid_gossamer_crc_table)], narrowed := true }
def FrameTurnedUptoSaid : Prop := frameTurnedUptoRow.holds Tryd.pinned (OpenSpec.upto frameTurnedSpec)

/-- 'gossamerlaw06.FrameRest', WHERE WHAT IT READS IS OF BULK AT MOST 1048576: true; the input reads as it did. -/
def frameRestUptoRow : OpenClaim := { program := "ytjhdjeneblgknaadoor", sum := "5a492f3409c769d10c64de1beec289d76729ae47e726ddf8f26089e59ea42eb9", func := "gossamer/gossamerlaw06.FrameRest", spec := "frameRest", named := ["gossamer/crc.table"], apart := false, laid := [("gossamer/crc.table", laid_gossamer_crc_table)], narrowed := true }
def FrameRestUptoSaid : Prop := frameRestUptoRow.holds Tryd.pinned (OpenSpec.upto frameRestSpec)

/-- 'gossamerlaw06.FrameTells', WHERE WHAT IT READS IS OF BULK AT MOST 1048576: true; the input reads as it did. -/
def frameTellsUptoRow : OpenClaim := { program := "ytjhdjeneblgknaadoor", sum := "5a492f3409c769d10c64de1beec289d76729ae47e726ddf8f26089e59ea42eb9", func := "gossamer/gossamerlaw06.FrameTells", spec := "frameTells", named := ["gossamer/crc.table"], apart := false, laid := [("gossamer/crc.table", laid_gossamer_crc_table)], narrowed := true }
def FrameTellsUptoSaid : Prop := frameTellsUptoRow.holds Tryd.pinned (OpenSpec.upto frameTellsSpec)

/-- 'gossamerlaw06.FrameScans', WHERE WHAT IT READS IS OF BULK AT MOST 1048576: true; the input reads as it did. -/
def frameScansUptoRow : OpenClaim := { program := "ytjhdjeneblgknaadoor", sum := "5a492f3409c769d10c64de1beec289d76729ae47e726ddf8f26089e59ea42eb9", func := "gossamer/gossamerlaw06.FrameScans", spec := "frameScans", named := ["gossamer/crc.table"], apart := false, laid := [("gossamer/crc.table", laid_gossamer_crc_table)], narrowed := true }
def FrameScansUptoSaid : Prop := frameScansUptoRow.holds Tryd.pinned (OpenSpec.upto frameScansSpec)

/-- 'gossamerlaw06.FrameShort', WHERE WHAT IT READS IS OF BULK AT MOST 1048576: true; the input reads as it did. -/
def frameShortUptoRow : OpenClaim := { program := "ytjhdjeneblgknaadoor", sum := "5a492f3409c769d10c64de1beec289d76729ae47e726ddf8f26089e59ea42eb9", func := "gossamer/gossamerlaw06.FrameShort", spec := "frameShort", named := ["gossamer/crc.table"], apart := false, laid := [("gossamer/crc.table", laid_gossamer_crc_table)], narrowed := true }
def FrameShortUptoSaid : Prop := frameShortUptoRow.holds Tryd.pinned (OpenSpec.upto frameShortSpec)

end Rows
end Go.Proofs.YtjhdjeneblgknaaDoor
