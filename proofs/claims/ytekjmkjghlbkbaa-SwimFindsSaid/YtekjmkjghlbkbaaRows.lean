/-
  No cell of these rows narrows 'for every input' (looked for: loops, veiled, ifaces, maps, wideKeys, modest, calm, conditions, laid).
  DERIVED. THE GIVEN ROWS OF THIS SEAT. 4 by the template 'for every input the law returns true; each argument reads behind the call as it read before'; 0 by the template 'total and deterministic' (their statements: YtekjmkjghlbkbaaTotals.lean).
  GIVEN WITH THE SEED: the statements are not yours to turn. If you find one false, say at which input.
  Laid BY PROGRAM, IN A SANDBOX (cutbox-rows.mjs): the forced cells as the released guide's own fill.sh prints them over the translation ee1862de847749eb… (all of the seat's roots in one cut). By AI agents, Wed Nov 11 2026. No macro, syntax, notation, axiom, sorry.
-/
import Derived.Test.YtekjmkjghlbkbaaChecked
import GoSem.Claim
import GoSem.ClaimJoined
import GoSem.ClaimMapViews
import Derived.JoinedTies
import Derived.KernelRfl
namespace Go.Proofs.Ytekjmkjghlbkbaa
/- THE CELL 'sum', in the pinned program and in every row, IS THE sha256 OF THE DUMP (.gsa) THAT YtekjmkjghlbkbaaProg.lean LOADS. Nothing in Lean hashes anything: it is a label: what it is worth is what the hold of that sum in a sandbox is worth. -/
noncomputable def Try.pinned : Pinned := { name := "ytekjmkjghlbkbaa", sum := "ee1862de847749ebbcdf63dd424472788380eb6e9be7078f59356f512b258318", checked := Try.checked }
namespace Rows
def none {H : Type} : Left H := { results := [], args := [] }

/-- 'gossamerlaw22.SwimFinds': WHATEVER THE INPUT: true; the input reads as it did. -/
def swimFindsSpec : ChangeSpec := { name := "swimFinds", fn := fun _ => fun
  | [d1, d2, d3, d4, d5, d6] => { results := [.lit (.bool true)], args := [d1, d2, d3, d4, d5, d6] }
  | _ => none }
def swimFindsRow : OpenClaim := { program := "ytekjmkjghlbkbaa", sum := "ee1862de847749ebbcdf63dd424472788380eb6e9be7078f59356f512b258318", func := "gossamer/gossamerlaw22.SwimFinds", spec := "swimFinds", recurses := true, apart := false }
def SwimFindsSaid : Prop := swimFindsRow.holds Try.pinned (OpenSpec.ofChange swimFindsSpec)

/-- ITS FALSE NEIGHBOUR: 'it returns false'. Refute it at one input. -/
def swimFindsWrong : ChangeSpec := { name := "swimFinds", fn := fun _ => fun
  | [d1, d2, d3, d4, d5, d6] => { results := [.lit (.bool false)], args := [d1, d2, d3, d4, d5, d6] }
  | _ => none }
def SwimFindsWrongFalsely : Prop := swimFindsRow.holds Try.pinned (OpenSpec.ofChange swimFindsWrong)

/-- 'gossamerlaw22.SwimNone': WHATEVER THE INPUT: true; the input reads as it did. -/
def swimNoneSpec : ChangeSpec := { name := "swimNone", fn := fun _ => fun
  | [d1, d2] => { results := [.lit (.bool true)], args := [d1, d2] }
  | _ => none }
def swimNoneRow : OpenClaim := { program := "ytekjmkjghlbkbaa", sum := "ee1862de847749ebbcdf63dd424472788380eb6e9be7078f59356f512b258318", func := "gossamer/gossamerlaw22.SwimNone", spec := "swimNone", recurses := true, apart := false }
def SwimNoneSaid : Prop := swimNoneRow.holds Try.pinned (OpenSpec.ofChange swimNoneSpec)

/-- ITS FALSE NEIGHBOUR: 'it returns false'. Refute it at one input. -/
def swimNoneWrong : ChangeSpec := { name := "swimNone", fn := fun _ => fun
  | [d1, d2] => { results := [.lit (.bool false)], args := [d1, d2] }
  | _ => none }
def SwimNoneWrongFalsely : Prop := swimNoneRow.holds Try.pinned (OpenSpec.ofChange swimNoneWrong)

/-- 'gossamerlaw22.SwimTurns': WHATEVER THE INPUT: true; the input reads as it did. -/
def swimTurnsSpec : ChangeSpec := { name := "swimTurns", fn := fun _ => fun
  | [d1, d2, d3, d4, d5] => { results := [.lit (.bool true)], args := [d1, d2, d3, d4, d5] }
  | _ => none }
def swimTurnsRow : OpenClaim := { program := "ytekjmkjghlbkbaa", sum := "ee1862de847749ebbcdf63dd424472788380eb6e9be7078f59356f512b258318", func := "gossamer/gossamerlaw22.SwimTurns", spec := "swimTurns", recurses := true, apart := false }
def SwimTurnsSaid : Prop := swimTurnsRow.holds Try.pinned (OpenSpec.ofChange swimTurnsSpec)

/-- ITS FALSE NEIGHBOUR: 'it returns false'. Refute it at one input. -/
def swimTurnsWrong : ChangeSpec := { name := "swimTurns", fn := fun _ => fun
  | [d1, d2, d3, d4, d5] => { results := [.lit (.bool false)], args := [d1, d2, d3, d4, d5] }
  | _ => none }
def SwimTurnsWrongFalsely : Prop := swimTurnsRow.holds Try.pinned (OpenSpec.ofChange swimTurnsWrong)

/-- 'gossamerlaw22.SwimGone': WHATEVER THE INPUT: true; the input reads as it did. -/
def swimGoneSpec : ChangeSpec := { name := "swimGone", fn := fun _ => fun
  | [d1, d2, d3, d4, d5, d6] => { results := [.lit (.bool true)], args := [d1, d2, d3, d4, d5, d6] }
  | _ => none }
def swimGoneRow : OpenClaim := { program := "ytekjmkjghlbkbaa", sum := "ee1862de847749ebbcdf63dd424472788380eb6e9be7078f59356f512b258318", func := "gossamer/gossamerlaw22.SwimGone", spec := "swimGone", recurses := true, apart := false }
def SwimGoneSaid : Prop := swimGoneRow.holds Try.pinned (OpenSpec.ofChange swimGoneSpec)

/-- ITS FALSE NEIGHBOUR: 'it returns false'. Refute it at one input. -/
def swimGoneWrong : ChangeSpec := { name := "swimGone", fn := fun _ => fun
  | [d1, d2, d3, d4, d5, d6] => { results := [.lit (.bool false)], args := [d1, d2, d3, d4, d5, d6] }
  | _ => none }
def SwimGoneWrongFalsely : Prop := swimGoneRow.holds Try.pinned (OpenSpec.ofChange swimGoneWrong)

/- THE SECOND FORM. 'bulk': how many values and letters a reading holds, each counted each time it is reached (what is shared counts as often as it is met; a slice's spare places count too). A statement '..UptoSaid' is the law's where the arguments, and the package variables that the reading takes, are together of bulk at most 1048576: NARROWER than '..Said'. Prove '..Said' where nothing that the law and all that it calls make is longer than what came in: it says more and counts as full. Else prove '..UptoSaid'. A law counts once. -/
mutual
def uptoBulk {H : Type} : DataW H → Nat
  | .lit (.string bytes) => bytes.length + 1
  | .lit _ => 1
  | .nil => 1
  | .ptr d => uptoBulk d + 1
  | .slice elems spare => uptoBulkAll elems + uptoBulkAll spare + 1
  | .agg parts => uptoBulkAll parts + 1
  | .iface _ d => uptoBulk d + 1
  | .map entries => uptoBulkEntries entries + 1
  | .held _ => 1
def uptoBulkAll {H : Type} : List (DataW H) → Nat
  | [] => 0
  | d :: r => uptoBulk d + uptoBulkAll r
def uptoBulkEntries {H : Type} : List (Lit × DataW H) → Nat
  | [] => 0
  | x :: r => uptoBulkEntry x + uptoBulkEntries r
def uptoBulkEntry {H : Type} : Lit × DataW H → Nat
  | (.string bytes, d) => bytes.length + uptoBulk d + 1
  | (_, d) => uptoBulk d + 1
 end
def uptoSmall : (H : Type) → List (DataW H) → Bool := fun _ ds => decide (uptoBulkAll ds ≤ 1048576)
def OpenSpec.upto (s : _root_.Go.ChangeSpec) : _root_.Go.OpenSpec := { _root_.Go.OpenSpec.ofChange s with cond := some uptoSmall }

/-- 'gossamerlaw22.SwimFinds', WHERE WHAT IT READS IS OF BULK AT MOST 1048576: true; the input reads as it did. -/
def swimFindsUptoRow : OpenClaim := { program := "ytekjmkjghlbkbaa", sum := "ee1862de847749ebbcdf63dd424472788380eb6e9be7078f59356f512b258318", func := "gossamer/gossamerlaw22.SwimFinds", spec := "swimFinds", recurses := true, apart := false, narrowed := true }
def SwimFindsUptoSaid : Prop := swimFindsUptoRow.holds Try.pinned (OpenSpec.upto swimFindsSpec)

/-- 'gossamerlaw22.SwimNone', WHERE WHAT IT READS IS OF BULK AT MOST 1048576: true; the input reads as it did. -/
def swimNoneUptoRow : OpenClaim := { program := "ytekjmkjghlbkbaa", sum := "ee1862de847749ebbcdf63dd424472788380eb6e9be7078f59356f512b258318", func := "gossamer/gossamerlaw22.SwimNone", spec := "swimNone", recurses := true, apart := false, narrowed := true }
def SwimNoneUptoSaid : Prop := swimNoneUptoRow.holds Try.pinned (OpenSpec.upto swimNoneSpec)

/-- 'gossamerlaw22.SwimTurns', WHERE WHAT IT READS IS OF BULK AT MOST 1048576: true; the input reads as it did. -/
def swimTurnsUptoRow : OpenClaim := { program := "ytekjmkjghlbkbaa", sum := "ee1862de847749ebbcdf63dd424472788380eb6e9be7078f59356f512b258318", func := "gossamer/gossamerlaw22.SwimTurns", spec := "swimTurns", recurses := true, apart := false, narrowed := true }
def SwimTurnsUptoSaid : Prop := swimTurnsUptoRow.holds Try.pinned (OpenSpec.upto swimTurnsSpec)

/-- 'gossamerlaw22.SwimGone', WHERE WHAT IT READS IS OF BULK AT MOST 1048576: true; the input reads as it did. -/
def swimGoneUptoRow : OpenClaim := { program := "ytekjmkjghlbkbaa", sum := "ee1862de847749ebbcdf63dd424472788380eb6e9be7078f59356f512b258318", func := "gossamer/gossamerlaw22.SwimGone", spec := "swimGone", recurses := true, apart := false, narrowed := true }
def SwimGoneUptoSaid : Prop := swimGoneUptoRow.holds Try.pinned (OpenSpec.upto swimGoneSpec)

end Rows
end Go.Proofs.Ytekjmkjghlbkbaa
