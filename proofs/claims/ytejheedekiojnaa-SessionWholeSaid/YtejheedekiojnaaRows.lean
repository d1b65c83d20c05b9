/-
  No cell of these rows narrows 'for every input' (looked for: loops, veiled, ifaces, maps, wideKeys, modest, calm, conditions, laid).
  DERIVED. THE GIVEN ROWS OF THIS SEAT. 5 by the template 'for every input the law returns true; each argument reads behind the call as it read before'; 0 by the template 'total and deterministic' (their statements: YtejheedekiojnaaTotals.lean).
  GIVEN WITH THE SEED: the statements are not yours to turn. If you find one false, say at which input.
  Laid BY PROGRAM, IN A SANDBOX (cutbox-rows.mjs): the forced cells as the released guide's own fill.sh prints them over the translation d6124358257c41c0… (all of the seat's roots in one cut). By AI agents, Wed Nov 11 2026. No macro, syntax, notation, axiom, sorry.
-/
import Derived.Test.YtejheedekiojnaaChecked
import GoSem.Claim
import GoSem.ClaimJoined
import GoSem.ClaimMapViews
import Derived.JoinedTies
import Derived.KernelRfl
namespace Go.Proofs.Ytejheedekiojnaa
/- THE CELL 'sum', in the pinned program and in every row, IS THE sha256 OF THE DUMP (.gsa) THAT YtejheedekiojnaaProg.lean LOADS. Nothing in Lean hashes anything: it is a label: what it is worth is what the hold of that sum in a sandbox is worth. -/
noncomputable def Try.pinned : Pinned := { name := "ytejheedekiojnaa", sum := "d6124358257c41c0fe094d5c6a021f0830a307c4f5136f312053d4d6b8ac7851", checked := Try.checked }
namespace Rows
def none {H : Type} : Left H := { results := [], args := [] }

/-- 'gossamerlaw28.SessionWhole': WHATEVER THE INPUT: true; the input reads as it did. -/
def sessionWholeSpec : ChangeSpec := { name := "sessionWhole", fn := fun _ => fun
  | [d1, d2, d3] => { results := [.lit (.bool true)], args := [d1, d2, d3] }
  | _ => none }
def sessionWholeRow : OpenClaim := { program := "ytejheedekiojnaa", sum := "d6124358257c41c0fe094d5c6a021f0830a307c4f5136f312053d4d6b8ac7851", func := "gossamer/gossamerlaw28.SessionWhole", spec := "sessionWhole", inPlace := ["internal/abi.NoEscape", "internal/bytealg.MakeNoZero"], plainKeys := false, apart := false }
def SessionWholeSaid : Prop := sessionWholeRow.holds Try.pinned (OpenSpec.ofChange sessionWholeSpec)

/-- ITS FALSE NEIGHBOUR: 'it returns false'. Refute it at one input. -/
def sessionWholeWrong : ChangeSpec := { name := "sessionWhole", fn := fun _ => fun
  | [d1, d2, d3] => { results := [.lit (.bool false)], args := [d1, d2, d3] }
  | _ => none }
def SessionWholeWrongFalsely : Prop := sessionWholeRow.holds Try.pinned (OpenSpec.ofChange sessionWholeWrong)

/-- 'gossamerlaw28.SessionCuts': WHATEVER THE INPUT: true; the input reads as it did. -/
def sessionCutsSpec : ChangeSpec := { name := "sessionCuts", fn := fun _ => fun
  | [d1, d2, d3] => { results := [.lit (.bool true)], args := [d1, d2, d3] }
  | _ => none }
def sessionCutsRow : OpenClaim := { program := "ytejheedekiojnaa", sum := "d6124358257c41c0fe094d5c6a021f0830a307c4f5136f312053d4d6b8ac7851", func := "gossamer/gossamerlaw28.SessionCuts", spec := "sessionCuts", inPlace := ["internal/abi.NoEscape", "internal/bytealg.MakeNoZero"], plainKeys := false, apart := false }
def SessionCutsSaid : Prop := sessionCutsRow.holds Try.pinned (OpenSpec.ofChange sessionCutsSpec)

/-- ITS FALSE NEIGHBOUR: 'it returns false'. Refute it at one input. -/
def sessionCutsWrong : ChangeSpec := { name := "sessionCuts", fn := fun _ => fun
  | [d1, d2, d3] => { results := [.lit (.bool false)], args := [d1, d2, d3] }
  | _ => none }
def SessionCutsWrongFalsely : Prop := sessionCutsRow.holds Try.pinned (OpenSpec.ofChange sessionCutsWrong)

/-- 'gossamerlaw28.SessionBounds': WHATEVER THE INPUT: true; the input reads as it did. -/
def sessionBoundsSpec : ChangeSpec := { name := "sessionBounds", fn := fun _ => fun
  | [d] => { results := [.lit (.bool true)], args := [d] }
  | _ => none }
def sessionBoundsRow : OpenClaim := { program := "ytejheedekiojnaa", sum := "d6124358257c41c0fe094d5c6a021f0830a307c4f5136f312053d4d6b8ac7851", func := "gossamer/gossamerlaw28.SessionBounds", spec := "sessionBounds", inPlace := ["internal/abi.NoEscape", "internal/bytealg.MakeNoZero"], plainKeys := false, apart := false }
def SessionBoundsSaid : Prop := sessionBoundsRow.holds Try.pinned (OpenSpec.ofChange sessionBoundsSpec)

/-- ITS FALSE NEIGHBOUR: 'it returns false'. Refute it at one input. -/
def sessionBoundsWrong : ChangeSpec := { name := "sessionBounds", fn := fun _ => fun
  | [d] => { results := [.lit (.bool false)], args := [d] }
  | _ => none }
def SessionBoundsWrongFalsely : Prop := sessionBoundsRow.holds Try.pinned (OpenSpec.ofChange sessionBoundsWrong)

/-- 'gossamerlaw28.SessionApart': WHATEVER THE INPUT: true; the input reads as it did. -/
def sessionApartSpec : ChangeSpec := { name := "sessionApart", fn := fun _ => fun
  | [d] => { results := [.lit (.bool true)], args := [d] }
  | _ => none }
def sessionApartRow : OpenClaim := { program := "ytejheedekiojnaa", sum := "d6124358257c41c0fe094d5c6a021f0830a307c4f5136f312053d4d6b8ac7851", func := "gossamer/gossamerlaw28.SessionApart", spec := "sessionApart", inPlace := ["internal/abi.NoEscape", "internal/bytealg.MakeNoZero"], plainKeys := false, apart := false }
def SessionApartSaid : Prop := sessionApartRow.holds Try.pinned (OpenSpec.ofChange sessionApartSpec)

/-- ITS FALSE NEIGHBOUR: 'it returns false'. Refute it at one input. -/
def sessionApartWrong : ChangeSpec := { name := "sessionApart", fn := fun _ => fun
  | [d] => { results := [.lit (.bool false)], args := [d] }
  | _ => none }
def SessionApartWrongFalsely : Prop := sessionApartRow.holds Try.pinned (OpenSpec.ofChange sessionApartWrong)

/-- 'gossamerlaw28.SessionNewer': WHATEVER THE INPUT: true; the input reads as it did. -/
def sessionNewerSpec : ChangeSpec := { name := "sessionNewer", fn := fun _ => fun
  | [d1, d2, d3, d4] => { results := [.lit (.bool true)], args := [d1, d2, d3, d4] }
  | _ => none }
def sessionNewerRow : OpenClaim := { program := "ytejheedekiojnaa", sum := "d6124358257c41c0fe094d5c6a021f0830a307c4f5136f312053d4d6b8ac7851", func := "gossamer/gossamerlaw28.SessionNewer", spec := "sessionNewer", inPlace := ["internal/abi.NoEscape", "internal/bytealg.MakeNoZero"], plainKeys := false, apart := false }
def SessionNewerSaid : Prop := sessionNewerRow.holds Try.pinned (OpenSpec.ofChange sessionNewerSpec)

/-- ITS FALSE NEIGHBOUR: 'it returns false'. Refute it at one input. -/
def sessionNewerWrong : ChangeSpec := { name := "sessionNewer", fn := fun _ => fun
  | [d1, d2, d3, d4] => { results := [.lit (.bool false)], args := [d1, d2, d3, d4] }
  | _ => none }
def SessionNewerWrongFalsely : Prop := sessionNewerRow.holds Try.pinned (OpenSpec.ofChange sessionNewerWrong)

/- THE SECOND FORM. 'bulk': how many values and letters a reading holds, each counted each time it is reached (what is shared counts as often as it is met; a slice's spare places count too). A statement '..UptoSaid' is the law's where the arguments, and the package variables that the reading takes, are together of bulk at most 1048576: NARROWER than '..Said'. Prove '..Said' where nothing that the law and all that it calls make is longer than what came in: it says more and counts as full. Else prove '..UptoSaid'. A law counts once. -/
mutual
def uptoBulk {H : Type} : DataW H → Nat
  | .lit (.string bytes) => bytes.length + 1
  | .lit _ => 1
  | .nil => 1
  | .ptr d => uptoBulk d + 1
  | .slice elems spare => uptoBulkAll elems + uptoBulkAll spare + 1
  | .agg parts => uptoBulkAll parts + 1
  | .iface _ d => uptoBulk d + 1
  | .map entries => uptoBulkEntries entries + 1
  | .held _ => 1
def uptoBulkAll {H : Type} : List (DataW H) → Nat
  | [] => 0
  | d :: r => uptoBulk d + uptoBulkAll r
def uptoBulkEntries {H : Type} : List (Lit × DataW H) → Nat
  | [] => 0
  | x :: r => uptoBulkEntry x + uptoBulkEntries r
def uptoBulkEntry {H : Type} : Lit × DataW H → Nat
  | (.string bytes, d) => bytes.length + uptoBulk d + 1
  | (_, d) => uptoBulk d + 1
 end
def uptoSmall : (H : Type) → List (DataW H) → Bool := fun _ ds => decide (uptoBulkAll ds ≤ 1048576)
def OpenSpec.upto (s : _root_.Go.ChangeSpec) : _root_.Go.OpenSpec := { _root_.Go.OpenSpec.ofChange s with cond := some uptoSmall }

/-- 'gossamerlaw28.SessionWhole', WHERE WHAT IT READS IS OF BULK AT MOST 1048576: true; the input reads as it did. -/
def sessionWholeUptoRow : OpenClaim := { program := "ytejheedekiojnaa", sum := "d6124358257c41c0fe094d5c6a021f0830a307c4f5136f312053d4d6b8ac7851", func := "gossamer/gossamerlaw28.SessionWhole", spec := "sessionWhole", inPlace := ["internal/abi.NoEscape", "internal/bytealg.MakeNoZero"], plainKeys := false, apart := false, narrowed := true }
def SessionWholeUptoSaid : Prop := sessionWholeUptoRow.holds Try.pinned (OpenSpec.upto sessionWholeSpec)

/-- 'gossamerlaw28.SessionCuts', WHERE WHAT IT READS IS OF BULK AT MOST 1048576: true; the input reads as it did. -/
def sessionCutsUptoRow : OpenClaim := { program := "ytejheedekiojnaa", sum := "d6124358257c41c0fe094d5c6a021f0830a307c4f5136f312053d4d6b8ac7851", func := "gossamer/gossamerlaw28.SessionCuts", spec := "sessionCuts", inPlace := ["internal/abi.NoEscape", "internal/bytealg.MakeNoZero"], plainKeys := false, apart := false, narrowed := true }
def SessionCutsUptoSaid : Prop := sessionCutsUptoRow.holds Try.pinned (OpenSpec.upto sessionCutsSpec)

/-- 'gossamerlaw28.SessionBounds', WHERE WHAT IT READS IS OF BULK AT MOST 1048576: true; the input reads as it did. -/
def sessionBoundsUptoRow : OpenClaim := { program := "ytejheedekiojnaa", sum := "d6124358257c41c0fe094d5c6a021f0830a307c4f5136f312053d4d6b8ac7851", func := "gossamer/gossamerlaw28.SessionBounds", spec := "sessionBounds", inPlace := ["internal/abi.NoEscape", "internal/bytealg.MakeNoZero"], plainKeys := false, apart := false, narrowed := true }
def SessionBoundsUptoSaid : Prop := sessionBoundsUptoRow.holds Try.pinned (OpenSpec.upto sessionBoundsSpec)

/-- 'gossamerlaw28.SessionApart', WHERE WHAT IT READS IS OF BULK AT MOST 1048576: true; the input reads as it did. -/
def sessionApartUptoRow : OpenClaim := { program := "ytejheedekiojnaa", sum := "d6124358257c41c0fe094d5c6a021f0830a307c4f5136f312053d4d6b8ac7851", func := "gossamer/gossamerlaw28.SessionApart", spec := "sessionApart", inPlace := ["internal/abi.NoEscape", "internal/bytealg.MakeNoZero"], plainKeys := false, apart := false, narrowed := true }
def SessionApartUptoSaid : Prop := sessionApartUptoRow.holds Try.pinned (OpenSpec.upto sessionApartSpec)

/-- 'gossamerlaw28.SessionNewer', WHERE WHAT IT READS IS OF BULK AT MOST 1048576: true; the input reads as it did. -/
def sessionNewerUptoRow : OpenClaim := { program := "ytejheedekiojnaa", sum := "d6124358257c41c0fe094d5c6a021f0830a307c4f5136f312053d4d6b8ac7851", func := "gossamer/gossamerlaw28.SessionNewer", spec := "sessionNewer", inPlace := ["internal/abi.NoEscape", "internal/bytealg.MakeNoZero"], plainKeys := false, apart := false, narrowed := true }
def SessionNewerUptoSaid : Prop := sessionNewerUptoRow.holds Try.pinned (OpenSpec.upto sessionNewerSpec)

end Rows
end Go.Proofs.Ytejheedekiojnaa
