/-
  NARROWER THAN 'FOR EVERY INPUT', by the rows' own cells (each row's printed sentence says how): LogNone: laid · LogAgain: laid · LogRoom: laid · LogKeeps: laid · LogSpoilt: laid.
  DERIVED. THE GIVEN ROWS OF THIS SEAT. 5 by the template 'for every input the law returns true; each argument reads behind the call as it read before'; 0 by the template 'total and deterministic' (their statements: YtpiaplgbpjgjiaaDoorTotals.lean).
  GIVEN WITH THE SEED: the statements are not yours to turn. If you find one false, say at which input.
  Laid BY PROGRAM, IN A SANDBOX (cutbox-rows.mjs): the forced cells as the released guide's own fill.sh prints them over the translation 82cb484aee862029… (all of the seat's roots in one cut). By AI agents, Wed Nov 11 2026. No macro, syntax, notation, axiom, sorry.
-/
import Derived.Test.YtpiaplgbpjgjiaaDoorChecked
import GoSem.Claim
import GoSem.ClaimJoined
import GoSem.ClaimMapViews
import Derived.JoinedTies
import Derived.KernelRfl
namespace Go.Proofs.YtpiaplgbpjgjiaaDoor
/- THE CELL 'sum', in the pinned program and in every row, IS THE sha256 OF THE DUMP (.gsa) THAT YtpiaplgbpjgjiaaDoorProg.lean LOADS. Nothing in Lean hashes anything: it is a label: what it is worth is what the hold of that sum in a sandbox is worth. -/
noncomputable def Tryd.pinned : Pinned := { name := "ytpiaplgbpjgjiaadoor", sum := "82cb484aee8620299c4e6c15a24b2a2ece49951690ad183749f0893582dad573", checked := Tryd.checked }
namespace Rows
def none {H : Type} : Left H := { results := [], args := [] }

/- WHAT THE LISTED PACKAGE-LEVEL VARIABLES READ AS WHEN THE CALL BEGINS. Each datum BY PROGRAM (the guide's laid-datum.mjs) off the statement by which the dump's own 'gosem.cut.vars' lays the variable. In a bare row this is a premise. The card (YtpiaplgbpjgjiaaDoorCards.lean) ties it to the program's text. -/
def laid_gossamer_crc_table {H : Type} : DataW H := .agg [.lit (.int .u32 0), .lit (.int .u32 274646895), .lit (.int .u32 549293790), .lit (.int .u32 820201905), .lit (.int .u32 1098587580), .lit (.int .u32 1361435347), .lit (.int .u32 1640403810), .lit (.int .u32 1905808397), .lit (.int .u32 2197175160), .lit (.int .u32 2460548119), .lit (.int .u32 2722870694), .lit (.int .u32 2987750089), .lit (.int .u32 3280807620), .lit (.int .u32 3553878443), .lit (.int .u32 3811616794), .lit (.int .u32 4084100981)]

/-- 'gossamerlaw08.LogNone': WHATEVER THE INPUT: true; the input reads as it did. -/
def logNoneSpec : ChangeSpec := { name := "logNone", fn := fun _ => fun
  | [d] => { results := [.lit (.bool true)], args := [d] }
  | _ => none }
def logNoneRow : OpenClaim := { program := "ytpiaplgbpjgjiaadoor", sum := "82cb484aee8620299c4e6c15a24b2a2ece49951690ad183749f0893582dad573", func := "gossamer/gossamerlaw08.LogNone", spec := "logNone", inPlace := ["internal/abi.NoEscape"], unfollowed := true, recurses := true, named := ["gossamer/crc.table"], apart := false, laid := [("gossamer/crc.table", laid_gossamer_crc_table)] }
def LogNoneSaid : Prop := logNoneRow.holds Tryd.pinned (OpenSpec.ofChange logNoneSpec)

/-- ITS FALSE NEIGHBOUR: 'it returns false'. Refute it at one input. -/
def logNoneWrong : ChangeSpec := { name := "logNone", fn := fun _ => fun
  | [d] => { results := [.lit (.bool false)], args := [d] }
  | _ => none }
def LogNoneWrongFalsely : Prop := logNoneRow.holds Tryd.pinned (OpenSpec.ofChange logNoneWrong)

/-- 'gossamerlaw08.LogAgain': WHATEVER THE INPUT: true; the input reads as it did. -/
def logAgainSpec : ChangeSpec := { name := "logAgain", fn := fun _ => fun
  | [d1, d2] => { results := [.lit (.bool true)], args := [d1, d2] }
  | _ => none }
def logAgainRow : OpenClaim := { program := "ytpiaplgbpjgjiaadoor", sum := "82cb484aee8620299c4e6c15a24b2a2ece49951690ad183749f0893582dad573", func := "gossamer/gossamerlaw08.LogAgain", spec := "logAgain", inPlace := ["internal/abi.NoEscape"], unfollowed := true, recurses := true, named := ["gossamer/crc.table"], apart := false, laid := [("gossamer/crc.table", laid_gossamer_crc_table)] }
def LogAgainSaid : Prop := logAgainRow.holds Tryd.pinned (OpenSpec.ofChange logAgainSpec)

/-- ITS FALSE NEIGHBOUR: 'it returns false'. Refute it at one input. -/
def logAgainWrong : ChangeSpec := { name := "logAgain", fn := fun _ => fun
  | [d1, d2] => { results := [.lit (.bool false)], args := [d1, d2] }
  | _ => none }
def LogAgainWrongFalsely : Prop := logAgainRow.holds Tryd.pinned (OpenSpec.ofChange logAgainWrong)

/-- 'gossamerlaw08.LogRoom': WHATEVER THE INPUT: true; the input reads as it did. -/
def logRoomSpec : ChangeSpec := { name := "logRoom", fn := fun _ => fun
  | [d1, d2] => { results := [.lit (.bool true)], args := [d1, d2] }
  | _ => none }
def logRoomRow : OpenClaim := { program := "ytpiaplgbpjgjiaadoor", sum := "82cb484aee8620299c4e6c15a24b2a2ece49951690ad183749f0893582dad573", func := "gossamer/gossamerlaw08.LogRoom", spec := "logRoom", inPlace := ["internal/abi.NoEscape"], unfollowed := true, recurses := true, named := ["gossamer/crc.table"], apart := false, laid := [("gossamer/crc.table", laid_gossamer_crc_table)] }
def LogRoomSaid : Prop := logRoomRow.holds Tryd.pinned (OpenSpec.ofChange logRoomSpec)

/-- ITS FALSE NEIGHBOUR: 'it returns false'. Refute it at one input. -/
def logRoomWrong : ChangeSpec := { name := "logRoom", fn := fun _ => fun
  | [d1, d2] => { results := [.lit (.bool false)], args := [d1, d2] }
  | _ => none }
def LogRoomWrongFalsely : Prop := logRoomRow.holds Tryd.pinned (OpenSpec.ofChange logRoomWrong)

/-- 'gossamerlaw08.LogKeeps': WHATEVER THE INPUT: true; the input reads as it did. -/
def logKeepsSpec : ChangeSpec := { name := "logKeeps", fn := fun _ => fun
  | [d1, d2, d3] => { results := [.lit (.bool true)], args := [d1, d2, d3] }
  | _ => none }
def logKeepsRow : OpenClaim := { program := "ytpiaplgbpjgjiaadoor", sum := "82cb484aee8620299c4e6c15a24b2a2ece49951690ad183749f0893582dad573", func := "gossamer/gossamerlaw08.LogKeeps", spec := "logKeeps", inPlace := ["internal/abi.NoEscape"], unfollowed := true, recurses := true, named := ["gossamer/crc.table"], apart := false, laid := [("gossamer/crc.table", laid_gossamer_crc_table)] }
def LogKeepsSaid : Prop := logKeepsRow.holds Tryd.pinned (OpenSpec.ofChange logKeepsSpec)

/-- ITS FALSE NEIGHBOUR: 'it returns false'. Refute it at one input. -/
def logKeepsWrong : ChangeSpec := { name := "logKeeps", fn := fun _ => fun
  | [d1, d2, d3] => { results := [.lit (.bool false)], args := [d1, d2, d3] }
  | _ => none }
def LogKeepsWrongFalsely : Prop := logKeepsRow.holds Tryd.pinned (OpenSpec.ofChange logKeepsWrong)

/-- 'gossamerlaw08.LogSpoilt': WHATEVER THE INPUT: true; the input reads as it did. -/
def logSpoiltSpec : ChangeSpec := { name := "logSpoilt", fn := fun _ => fun
  | [d1, d2, d3, d4] => { results := [.lit (.bool true)], args := [d1, d2, d3, d4] }
  | _ => none }
def logSpoiltRow : OpenClaim := { program := "ytpiaplgbpjgjiaadoor", sum := "82cb484aee8620299c4e6c15a24b2a2ece49951690ad183749f0893582dad573", func := "gossamer/gossamerlaw08.LogSpoilt", spec := "logSpoilt", inPlace := ["internal/abi.NoEscape"], unfollowed := true, recurses := true, named := ["gossamer/crc.table"], apart := false, laid := [("gossamer/crc.table", laid_gossamer_crc_table)] }
def LogSpoiltSaid : Prop := logSpoiltRow.holds Tryd.pinned (OpenSpec.ofChange logSpoiltSpec)

/-- ITS FALSE NEIGHBOUR: 'it returns false'. Refute it at one input. -/
def logSpoiltWrong : ChangeSpec := { name := "logSpoilt", fn := fun _ => fun
  | [d1, d2, d3, d4] => { results := [.lit (.bool false)], args := [d1, d2, d3, d4] }
  | _ => none }
def LogSpoiltWrongFalsely : Prop := logSpoiltRow.holds Tryd.pinned (OpenSpec.ofChange logSpoiltWrong)

/- THE SECOND FORM. 'bulk': how many values and letters a reading holds, each counted each time it is reached (what is shared counts as often as it is met; a slice's spare places count too). A statement '..UptoSaid' is the law's where the arguments, and the package variables that the reading takes, are together of bulk at most 1048576: NARROWER than '..Said'. Prove '..Said' where nothing that the law and all that it calls make is longer than what came in: it says more and counts as full. Else prove '..UptoSaid'. A law counts once. -/
mutual
def uptoBulk {H : Type} : DataW H → Nat
  | .lit (.string bytes) => bytes.length + 1
  | .lit _ => 1
  | .nil => 1
  | .ptr d => uptoBulk d + 1
  | .slice elems spare => uptoBulkAll elems + uptoBulkAll spare + 1
  | .agg parts => uptoBulkAll parts + 1
  | .iface _ d => uptoBulk d + 1
  | .map entries => uptoBulkEntries entries + 1
  | .held _ => 1
def uptoBulkAll {H : Type} : List (DataW H) → Nat
  | [] => 0
  | d :: r => uptoBulk d + uptoBulkAll r
def uptoBulkEntries {H : Type} : List (Lit × DataW H) → Nat
  | [] => 0
  | x :: r => uptoBulkEntry x + uptoBulkEntries r
def uptoBulkEntry {H : Type} : Lit × DataW H → Nat
  | (.string bytes, d) => bytes.length + uptoBulk d + 1
  | (_, d) => uptoBulk d + 1
 end
def uptoSmall : (H : Type) → List (DataW H) → Bool := fun _ ds => decide (uptoBulkAll ds ≤ 1048576)
def OpenSpec.upto (s : _root_.Go.ChangeSpec) : _root_.Go.OpenSpec := { _root_.Go.OpenSpec.ofChange s with cond := some uptoSmall }

/-- 'gossamerlaw08.LogNone', WHERE WHAT IT READS IS OF BULK AT MOST 1048576: true; the input reads as it did. -/
def logNoneUptoRow : OpenClaim := { program := "ytpiaplgbpjgjiaadoor", sum := "82cb484aee8620299c4e6c15a24b2a2ece49951690ad183749f0893582dad573", func := "gossamer/gossamerlaw08.LogNone", spec := "logNone", inPlace := ["internal/abi.NoEscape"], unfollowed := true, recurses := true, named := ["gossamer/crc.table"], apart := false, laid := [("gossamer/crc.table", laid_gossamer_crc_table)], narrowed := true }
def LogNoneUptoSaid : Prop := logNoneUptoRow.holds Tryd.pinned (OpenSpec.upto logNoneSpec)

/-- 'gossamerlaw08.LogAgain', WHERE WHAT IT READS IS OF BULK AT MOST 1048576: true; the input reads as it did. -/
def logAgainUptoRow : OpenClaim := { program := "ytpiaplgbpjgjiaadoor", sum := "82cb484aee8620299c4e6c15a24b2a2ece49951690ad183749f0893582dad573", func := "gossamer/gossamerlaw08.LogAgain", spec := "logAgain", inPlace := ["internal/abi.NoEscape"], unfollowed := true, recurses := true, named := ["gossamer/crc.table"], apart := false, laid := [("gossamer/crc.table", laid_gossamer_crc_table)], narrowed := true }
def LogAgainUptoSaid : Prop := logAgainUptoRow.holds Tryd.pinned (OpenSpec.upto logAgainSpec)

/-- 'gossamerlaw08.LogRoom', WHERE WHAT IT READS IS OF BULK AT MOST 1048576: true; the input reads as it did. -/
def logRoomUptoRow : OpenClaim := { program := "ytpiaplgbpjgjiaadoor", sum := "82cb484aee8620299c4e6c15a24b2a2ece49951690ad183749f0893582dad573", func := "gossamer/gossamerlaw08.LogRoom", spec := "logRoom", inPlace := ["internal/abi.NoEscape"], unfollowed := true, recurses := true, named := ["gossamer/crc.table"], apart := false, laid := [("gossamer/crc.table", laid_gossamer_crc_table)], narrowed := true }
def LogRoomUptoSaid : Prop := logRoomUptoRow.holds Tryd.pinned (OpenSpec.upto logRoomSpec)

/-- 'gossamerlaw08.LogKeeps', WHERE WHAT IT READS IS OF BULK AT MOST 1048576: true; the input reads as it did. -/
def logKeepsUptoRow : OpenClaim := { program := "ytpiaplgbpjgjiaadoor", sum := "82cb484aee8620299c4e6c15a24b2a2ece49951690ad183749f0893582dad573", func := "gossamer/gossamerlaw08.LogKeeps", spec := "logKeeps", inPlace := ["internal/abi.NoEscape"], unfollowed := true, recurses := true, named := ["gossamer/crc.table"], apart := false, laid := [("gossamer/crc.table", laid_gossamer_crc_table)], narrowed := true }
def LogKeepsUptoSaid : Prop := logKeepsUptoRow.holds Tryd.pinned (OpenSpec.upto logKeepsSpec)

/-- 'gossamerlaw08.LogSpoilt', WHERE WHAT IT READS IS OF BULK AT MOST 1048576: true; the input reads as it did. -/
def logSpoiltUptoRow : OpenClaim := { program := "ytpiaplgbpjgjiaadoor", sum := "82cb484aee8620299c4e6c15a24b2a2ece49951690ad183749f0893582dad573", func := "gossamer/gossamerlaw08.LogSpoilt", spec := "logSpoilt", inPlace := ["internal/abi.NoEscape"], unfollowed := true, recurses := true, named := ["gossamer/crc.table"], apart := false, laid := [("gossamer/crc.table", laid_gossamer_crc_table)], narrowed := true }
def LogSpoiltUptoSaid : Prop := logSpoiltUptoRow.holds Tryd.pinned (OpenSpec.upto logSpoiltSpec)

end Rows
end Go.Proofs.YtpiaplgbpjgjiaaDoor
