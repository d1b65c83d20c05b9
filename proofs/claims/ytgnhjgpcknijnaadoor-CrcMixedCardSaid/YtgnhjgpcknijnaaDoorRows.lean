/-
  NARROWER THAN 'FOR EVERY INPUT', by the rows' own cells (each row's printed sentence says how): CrcOfs: laid · CrcParts: laid · CrcBursts: laid · CrcMixed: laid.
  DERIVED. THE GIVEN ROWS OF THIS SEAT. 4 by the template 'for every input the law returns true; each argument reads behind the call as it read before'; 0 by the template 'total and deterministic' (their statements: YtgnhjgpcknijnaaDoorTotals.lean).
  GIVEN WITH THE SEED: the statements are not yours to turn. If you find one false, say at which input.
  Laid BY PROGRAM, IN A SANDBOX (cutbox-rows.mjs): the forced cells as the released guide's own fill.sh prints them over the translation 89a0cb888e8a9942… (all of the seat's roots in one cut). By AI agents, Wed Nov 11 2026. No macro, syntax, notation, axiom, sorry.
-/
import Derived.Test.YtgnhjgpcknijnaaDoorChecked
import GoSem.Claim
import GoSem.ClaimJoined
import GoSem.ClaimMapViews
import Derived.JoinedTies
import Derived.KernelRfl
namespace Go.Proofs.YtgnhjgpcknijnaaDoor
/- THE CELL 'sum', in the pinned program and in every row, IS THE sha256 OF THE DUMP (.gsa) THAT YtgnhjgpcknijnaaDoorProg.lean LOADS. Nothing in Lean hashes anything: it is a label: what it is worth is what the hold of that sum in a sandbox is worth. -/
noncomputable def Tryd.pinned : Pinned := { name := "ytgnhjgpcknijnaadoor", sum := "89a0cb888e8a99421457ccb4c608a55109f4b5a41eb983ab872e56a504ec7e5d", checked := Tryd.checked }
namespace Rows
def none {H : Type} : Left H := { results := [], args := [] }

/- WHAT THE LISTED PACKAGE-LEVEL VARIABLES READ AS WHEN THE CALL BEGINS. Each datum BY PROGRAM (the guide's laid-datum.mjs) off the statement by which the dump's own 'gosem.cut.vars' lays the variable. In a bare row this is a premise. The card (YtgnhjgpcknijnaaDoorCards.lean) ties it to the program's text. -/
def laid_gossamer_crc_table {H : Type} : DataW H := .agg [.lit (.int .u32 0), .lit (.int .u32 274646895), .lit (.int .u32 549293790), .lit (.int .u32 820201905), .lit (.int .u32 1098587580), .lit (.int .u32 1361435347), .lit (.int .u32 1640403810), .lit (.int .u32 1905808397), .lit (.int .u32 2197175160), .lit (.int .u32 2460548119), .lit (.int .u32 2722870694), .lit (.int .u32 2987750089), .lit (.int .u32 3280807620), .lit (.int .u32 3553878443), .lit (.int .u32 3811616794), .lit (.int .u32 4084100981)]

/-- 'gossamerlaw03.CrcOfs': WHATEVER THE INPUT: true; the input reads as it did. -/
def crcOfsSpec : ChangeSpec := { name := "crcOfs", fn := fun _ => fun
  | [d1, d2] => { results := [.lit (.bool true)], args := [d1, d2] }
  | _ => none }
def crcOfsRow : OpenClaim := { program := "ytgnhjgpcknijnaadoor", sum := "89a0cb888e8a99421457ccb4c608a55109f4b5a41eb983ab872e56a504ec7e5d", func := "gossamer/gossamerlaw03.CrcOfs", spec := "crcOfs", named := ["gossamer/crc.table"], apart := false, laid := [("gossamer/crc.table", laid_gossamer_crc_table)] }
def CrcOfsSaid : Prop := crcOfsRow.holds Tryd.pinned (OpenSpec.ofChange crcOfsSpec)

/-- ITS FALSE NEIGHBOUR: 'it returns false'. Refute it at one input. -/
def crcOfsWrong : ChangeSpec := { name := "crcOfs", fn := fun _ => fun
  | [d1, d2] => { results := [.lit (.bool false)], args := [d1, d2] }
  | _ => none }
def CrcOfsWrongFalsely : Prop := crcOfsRow.holds Tryd.pinned (OpenSpec.ofChange crcOfsWrong)

/-- 'gossamerlaw03.CrcParts': WHATEVER THE INPUT: true; the input reads as it did. -/
def crcPartsSpec : ChangeSpec := { name := "crcParts", fn := fun _ => fun
  | [d1, d2] => { results := [.lit (.bool true)], args := [d1, d2] }
  | _ => none }
def crcPartsRow : OpenClaim := { program := "ytgnhjgpcknijnaadoor", sum := "89a0cb888e8a99421457ccb4c608a55109f4b5a41eb983ab872e56a504ec7e5d", func := "gossamer/gossamerlaw03.CrcParts", spec := "crcParts", named := ["gossamer/crc.table"], apart := false, laid := [("gossamer/crc.table", laid_gossamer_crc_table)] }
def CrcPartsSaid : Prop := crcPartsRow.holds Tryd.pinned (OpenSpec.ofChange crcPartsSpec)

/-- ITS FALSE NEIGHBOUR: 'it returns false'. Refute it at one input. -/
def crcPartsWrong : ChangeSpec := { name := "crcParts", fn := fun _ => fun
  | [d1, d2] => { results := [.lit (.bool false)], args := [d1, d2] }
  | _ => none }
def CrcPartsWrongFalsely : Prop := crcPartsRow.holds Tryd.pinned (OpenSpec.ofChange crcPartsWrong)

/-- 'gossamerlaw03.CrcBursts': WHATEVER THE INPUT: true; the input reads as it did. -/
def crcBurstsSpec : ChangeSpec := { name := "crcBursts", fn := fun _ => fun
  | [d1, d2, d3] => { results := [.lit (.bool true)], args := [d1, d2, d3] }
  | _ => none }
def crcBurstsRow : OpenClaim := { program := "ytgnhjgpcknijnaadoor", sum := "89a0cb888e8a99421457ccb4c608a55109f4b5a41eb983ab872e56a504ec7e5d", func := "gossamer/gossamerlaw03.CrcBursts", spec := "crcBursts", named := ["gossamer/crc.table"], apart := false, laid := [("gossamer/crc.table", laid_gossamer_crc_table)] }
def CrcBurstsSaid : Prop := crcBurstsRow.holds Tryd.pinned (OpenSpec.ofChange crcBurstsSpec)

/-- ITS FALSE NEIGHBOUR: 'it returns false'. Refute it at one input. -/
def crcBurstsWrong : ChangeSpec := { name := "crcBursts", fn := fun _ => fun
  | [d1, d2, d3] => { results := [.lit (.bool false)], args := [d1, d2, d3] }
  | _ => none }
def CrcBurstsWrongFalsely : Prop := crcBurstsRow.holds Tryd.pinned (OpenSpec.ofChange crcBurstsWrong)

/-- 'gossamerlaw03.CrcMixed': WHATEVER THE INPUT: true; the input reads as it did. -/
def crcMixedSpec : ChangeSpec := { name := "crcMixed", fn := fun _ => fun
  | [d1, d2, d3] => { results := [.lit (.bool true)], args := [d1, d2, d3] }
  | _ => none }
def crcMixedRow : OpenClaim := { program := "ytgnhjgpcknijnaadoor", sum := "89a0cb888e8a99421457ccb4c608a55109f4b5a41eb983ab872e56a504ec7e5d", func := "gossamer/gossamerlaw03.CrcMixed", spec := "crcMixed", named := ["gossamer/crc.table"], apart := false, laid := [("gossamer/crc.table", laid_gossamer_crc_table)] }
def CrcMixedSaid : Prop := crcMixedRow.holds Tryd.pinned (OpenSpec.ofChange crcMixedSpec)

/-- ITS FALSE NEIGHBOUR: 'it returns false'. Refute it at one input. -/
def crcMixedWrong : ChangeSpec := { name := "crcMixed", fn := fun _ => fun
  | [d1, d2, d3] => { results := [.lit (.bool false)], args := [d1, d2, d3] }
  | _ => none }
def CrcMixedWrongFalsely : Prop := crcMixedRow.holds Tryd.pinned (OpenSpec.ofChange crcMixedWrong)

/- THE SECOND FORM. 'bulk': how many values and letters a reading holds, each counted each time it is reached (what is shared counts as often as it is met; a slice's spare places count too). A statement '..UptoSaid' is the law's where the arguments, and the package variables that the reading takes, are together of bulk at most 1048576: NARROWER than '..Said'. Prove '..Said' where nothing that the law and all that it calls make is longer than what came in: it says more and counts as full. Else prove '..UptoSaid'. A law counts once. -/
mutual
def uptoBulk {H : Type} : DataW H → Nat
  | .lit (.string bytes) => bytes.length + 1
  | .lit _ => 1
  | .nil => 1
  | .ptr d => uptoBulk d + 1
  | .slice elems spare => uptoBulkAll elems + uptoBulkAll spare + 1
  | .agg parts => uptoBulkAll parts + 1
  | .iface _ d => uptoBulk d + 1
  | .map entries => uptoBulkEntries entries + 1
  | .held _ => 1
def uptoBulkAll {H : Type} : List (DataW H) → Nat
  | [] => 0
  | d :: r => uptoBulk d + uptoBulkAll r
def uptoBulkEntries {H : Type} : List (Lit × DataW H) → Nat
  | [] => 0
  | x :: r => uptoBulkEntry x + uptoBulkEntries r
def uptoBulkEntry {H : Type} : Lit × DataW H → Nat
  | (.string bytes, d) => bytes.length + uptoBulk d + 1
  | (_, d) => uptoBulk d + 1
 end
def uptoSmall : (H : Type) → List (DataW H) → Bool := fun _ ds => decide (uptoBulkAll ds ≤ 1048576)
def OpenSpec.upto (s : _root_.Go.ChangeSpec) : _root_.Go.OpenSpec := { _root_.Go.OpenSpec.ofChange s with cond := some uptoSmall }

/-- 'gossamerlaw03.CrcOfs', WHERE WHAT IT READS IS OF BULK AT MOST 1048576: true; the input reads as it did. -/
def crcOfsUptoRow : OpenClaim := { program := "ytgnhjgpcknijnaadoor", sum := "89a0cb888e8a99421457ccb4c608a55109f4b5a41eb983ab872e56a504ec7e5d", func := "gossamer/gossamerlaw03.CrcOfs", spec := "crcOfs", named := ["gossamer/crc.table"], apart := false, laid := [("gossamer/crc.table", laid_gossamer_crc_table)], narrowed := true }
def CrcOfsUptoSaid : Prop := crcOfsUptoRow.holds Tryd.pinned (OpenSpec.upto crcOfsSpec)

/-- 'gossamerlaw03.CrcParts', WHERE WHAT IT READS IS OF BULK AT MOST 1048576: true; the input reads as it did. -/
def crcPartsUptoRow : OpenClaim := { program := "ytgnhjgpcknijnaadoor", sum := "89a0cb888e8a99421457ccb4c608a55109f4b5a41eb983ab872e56a504ec7e5d", func := "gossamer/gossamerlaw03.CrcParts", spec := "crcParts", named := ["gossamer/crc.table"], apart := false, laid := [("gossamer/crc.table", laid_gossamer_crc_table)], narrowed := true }
def CrcPartsUptoSaid : Prop := crcPartsUptoRow.holds Tryd.pinned (OpenSpec.upto crcPartsSpec)

/-- 'gossamerlaw03.CrcBursts', WHERE WHAT IT READS IS OF BULK AT MOST 1048576: true; the input reads as it did. -/
def crcBurstsUptoRow : OpenClaim := { program := "ytgnhjgpcknijnaadoor", sum := "89a0cb888e8a99421457ccb4c608a55109f4b5a41eb983ab872e56a504ec7e5d", func := "gossamer/gossamerlaw03.CrcBursts", spec := "crcBursts", named := ["gossamer/crc.table"], apart := false, laid := [("gossamer/crc.table", laid_gossamer_crc_table)], narrowed := true }
def CrcBurstsUptoSaid : Prop := crcBurstsUptoRow.holds Tryd.pinned (OpenSpec.upto crcBurstsSpec)

/-- 'gossamerlaw03.CrcMixed', WHERE WHAT IT READS IS OF BULK AT MOST 1048576: true; the input reads as it did. -/
def crcMixedUptoRow : OpenClaim := { program := "ytgnhjgpcknijnaadoor", sum := "89a0cb888e8a99421457ccb4c608a55109f4b5a41eb983ab872e56a504ec7e5d", func := "gossamer/gossamerlaw03.CrcMixed", spec := "crcMixed", named := ["gossamer/crc.table"], apart := false, laid := [("gossamer/crc.table", laid_gossamer_crc_table)], narrowed := true }
def CrcMixedUptoSaid : Prop := crcMixedUptoRow.holds Tryd.pinned (OpenSpec.upto crcMixedSpec)

end Rows
end Go.Proofs.YtgnhjgpcknijnaaDoor
