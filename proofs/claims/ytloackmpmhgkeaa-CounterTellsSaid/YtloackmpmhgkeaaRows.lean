/-
  No cell of these rows narrows 'for every input' (looked for: loops, veiled, ifaces, maps, wideKeys, modest, calm, conditions, laid).
  DERIVED. THE GIVEN ROWS OF THIS SEAT. 4 by the template 'for every input the law returns true; each argument reads behind the call as it read before'; 0 by the template 'total and deterministic' (their statements: YtloackmpmhgkeaaTotals.lean).
  GIVEN WITH THE SEED: the statements are not yours to turn. If you find one false, say at which input.
  Laid BY PROGRAM, IN A SANDBOX (cutbox-rows.mjs): the forced cells as the released guide's own fill.sh prints them over the translation 60bbdba1c9259e2c… (all of the seat's roots in one cut). By AI agents, Wed Nov 11 2026. No macro, syntax, notation, axiom, sorry.
-/
import Derived.Test.YtloackmpmhgkeaaChecked
import GoSem.Claim
import GoSem.ClaimJoined
import GoSem.ClaimMapViews
import Derived.JoinedTies
import Derived.KernelRfl
namespace Go.Proofs.Ytloackmpmhgkeaa
/- THE CELL 'sum', in the pinned program and in every row, IS THE sha256 OF THE DUMP (.gsa) THAT YtloackmpmhgkeaaProg.lean LOADS. Nothing in Lean hashes anything: it is a label: what it is worth is what the hold of that sum in a sandbox is worth. -/
noncomputable def Try.pinned : Pinned := { name := "ytloackmpmhgkeaa", sum := "60bbdba1c9259e2c8078d1a9d1f3cf82bf1854db410a80c5750f33172041d5be", checked := Try.checked }
namespace Rows
def none {H : Type} : Left H := { results := [], args := [] }

/-- 'gossamerlaw12.CounterTells': WHATEVER THE INPUT: true; the input reads as it did. -/
def counterTellsSpec : ChangeSpec := { name := "counterTells", fn := fun _ => fun
  | [d1, d2, d3, d4] => { results := [.lit (.bool true)], args := [d1, d2, d3, d4] }
  | _ => none }
def counterTellsRow : OpenClaim := { program := "ytloackmpmhgkeaa", sum := "60bbdba1c9259e2c8078d1a9d1f3cf82bf1854db410a80c5750f33172041d5be", func := "gossamer/gossamerlaw12.CounterTells", spec := "counterTells", unfollowed := true, recurses := true, apart := false }
def CounterTellsSaid : Prop := counterTellsRow.holds Try.pinned (OpenSpec.ofChange counterTellsSpec)

/-- ITS FALSE NEIGHBOUR: 'it returns false'. Refute it at one input. -/
def counterTellsWrong : ChangeSpec := { name := "counterTells", fn := fun _ => fun
  | [d1, d2, d3, d4] => { results := [.lit (.bool false)], args := [d1, d2, d3, d4] }
  | _ => none }
def CounterTellsWrongFalsely : Prop := counterTellsRow.holds Try.pinned (OpenSpec.ofChange counterTellsWrong)

/-- 'gossamerlaw12.CounterSums': WHATEVER THE INPUT: true; the input reads as it did. -/
def counterSumsSpec : ChangeSpec := { name := "counterSums", fn := fun _ => fun
  | [d1, d2] => { results := [.lit (.bool true)], args := [d1, d2] }
  | _ => none }
def counterSumsRow : OpenClaim := { program := "ytloackmpmhgkeaa", sum := "60bbdba1c9259e2c8078d1a9d1f3cf82bf1854db410a80c5750f33172041d5be", func := "gossamer/gossamerlaw12.CounterSums", spec := "counterSums", unfollowed := true, recurses := true, apart := false }
def CounterSumsSaid : Prop := counterSumsRow.holds Try.pinned (OpenSpec.ofChange counterSumsSpec)

/-- ITS FALSE NEIGHBOUR: 'it returns false'. Refute it at one input. -/
def counterSumsWrong : ChangeSpec := { name := "counterSums", fn := fun _ => fun
  | [d1, d2] => { results := [.lit (.bool false)], args := [d1, d2] }
  | _ => none }
def CounterSumsWrongFalsely : Prop := counterSumsRow.holds Try.pinned (OpenSpec.ofChange counterSumsWrong)

/-- 'gossamerlaw12.CounterFolds': WHATEVER THE INPUT: true; the input reads as it did. -/
def counterFoldsSpec : ChangeSpec := { name := "counterFolds", fn := fun _ => fun
  | [d1, d2, d3, d4, d5] => { results := [.lit (.bool true)], args := [d1, d2, d3, d4, d5] }
  | _ => none }
def counterFoldsRow : OpenClaim := { program := "ytloackmpmhgkeaa", sum := "60bbdba1c9259e2c8078d1a9d1f3cf82bf1854db410a80c5750f33172041d5be", func := "gossamer/gossamerlaw12.CounterFolds", spec := "counterFolds", unfollowed := true, recurses := true, apart := false }
def CounterFoldsSaid : Prop := counterFoldsRow.holds Try.pinned (OpenSpec.ofChange counterFoldsSpec)

/-- ITS FALSE NEIGHBOUR: 'it returns false'. Refute it at one input. -/
def counterFoldsWrong : ChangeSpec := { name := "counterFolds", fn := fun _ => fun
  | [d1, d2, d3, d4, d5] => { results := [.lit (.bool false)], args := [d1, d2, d3, d4, d5] }
  | _ => none }
def CounterFoldsWrongFalsely : Prop := counterFoldsRow.holds Try.pinned (OpenSpec.ofChange counterFoldsWrong)

/-- 'gossamerlaw12.CounterOwn': WHATEVER THE INPUT: true; the input reads as it did. -/
def counterOwnSpec : ChangeSpec := { name := "counterOwn", fn := fun _ => fun
  | [d1, d2, d3, d4] => { results := [.lit (.bool true)], args := [d1, d2, d3, d4] }
  | _ => none }
def counterOwnRow : OpenClaim := { program := "ytloackmpmhgkeaa", sum := "60bbdba1c9259e2c8078d1a9d1f3cf82bf1854db410a80c5750f33172041d5be", func := "gossamer/gossamerlaw12.CounterOwn", spec := "counterOwn", unfollowed := true, recurses := true, apart := false }
def CounterOwnSaid : Prop := counterOwnRow.holds Try.pinned (OpenSpec.ofChange counterOwnSpec)

/-- ITS FALSE NEIGHBOUR: 'it returns false'. Refute it at one input. -/
def counterOwnWrong : ChangeSpec := { name := "counterOwn", fn := fun _ => fun
  | [d1, d2, d3, d4] => { results := [.lit (.bool false)], args := [d1, d2, d3, d4] }
  | _ => none }
def CounterOwnWrongFalsely : Prop := counterOwnRow.holds Try.pinned (OpenSpec.ofChange counterOwnWrong)

/- THE SECOND FORM. 'bulk': how many values and letters a reading holds, each counted each time it is reached (what is shared counts as often as it is met; a slice's spare places count too). A statement '..UptoSaid' is the law's where the arguments, and the package variables that the reading takes, are together of bulk at most 1048576: NARROWER than '..Said'. Prove '..Said' where nothing that the law and all that it calls make is longer than what came in: it says more and counts as full. Else prove '..UptoSaid'. A law counts once. -/
mutual
def uptoBulk {H : Type} : DataW H → Nat
  | .lit (.string bytes) => bytes.length + 1
  | .lit _ => 1
  | .nil => 1
  | .ptr d => uptoBulk d + 1
  | .slice elems spare => uptoBulkAll elems + uptoBulkAll spare + 1
  | .agg parts => uptoBulkAll parts + 1
  | .iface _ d => uptoBulk d + 1
  | .map entries => uptoBulkEntries entries + 1
  | .held _ => 1
def uptoBulkAll {H : Type} : List (DataW H) → Nat
  | [] => 0
  | d :: r => uptoBulk d + uptoBulkAll r
def uptoBulkEntries {H : Type} : List (Lit × DataW H) → Nat
  | [] => 0
  | x :: r => uptoBulkEntry x + uptoBulkEntries r
def uptoBulkEntry {H : Type} : Lit × DataW H → Nat
  | (.string bytes, d) => bytes.length + uptoBulk d + 1
  | (_, d) => uptoBulk d + 1
 end
def uptoSmall : (H : Type) → List (DataW H) → Bool := fun _ ds => decide (uptoBulkAll ds ≤ 1048576)
def OpenSpec.upto (s : _root_.Go.ChangeSpec) : _root_.Go.OpenSpec := { _root_.Go.OpenSpec.ofChange s with cond := some uptoSmall }

/-- 'gossamerlaw12.CounterTells', WHERE WHAT IT READS IS OF BULK AT MOST 1048576: true; the input reads as it did. -/
def counterTellsUptoRow : OpenClaim := { program := "ytloackmpmhgkeaa", sum := "60bbdba1c9259e2c8078d1a9d1f3cf82bf1854db410a80c5750f33172041d5be", func := "gossamer/gossamerlaw12.CounterTells", spec := "counterTells", unfollowed := true, recurses := true, apart := false, narrowed := true }
def CounterTellsUptoSaid : Prop := counterTellsUptoRow.holds Try.pinned (OpenSpec.upto counterTellsSpec)

/-- 'gossamerlaw12.CounterSums', WHERE WHAT IT READS IS OF BULK AT MOST 1048576: true; the input reads as it did. -/
def counterSumsUptoRow : OpenClaim := { program := "ytloackmpmhgkeaa", sum := "60bbdba1c9259e2c8078d1a9d1f3cf82bf1854db410a80c5750f33172041d5be", func := "gossamer/gossamerlaw12.CounterSums", spec := "counterSums", unfollowed := true, recurses := true, apart := false, narrowed := true }
def CounterSumsUptoSaid : Prop := counterSumsUptoRow.holds Try.pinned (OpenSpec.upto counterSumsSpec)

/-- 'gossamerlaw12.CounterFolds', WHERE WHAT IT READS IS OF BULK AT MOST 1048576: true; the input reads as it did. -/
def counterFoldsUptoRow : OpenClaim := { program := "ytloackmpmhgkeaa", sum := "60bbdba1c9259e2c8078d1a9d1f3cf82bf1854db410a80c5750f33172041d5be", func := "gossamer/gossamerlaw12.CounterFolds", spec := "counterFolds", unfollowed := true, recurses := true, apart := false, narrowed := true }
def CounterFoldsUptoSaid : Prop := counterFoldsUptoRow.holds Try.pinned (OpenSpec.upto counterFoldsSpec)

/-- 'gossamerlaw12.CounterOwn', WHERE WHAT IT READS IS OF BULK AT MOST 1048576: true; the input reads as it did. -/
def counterOwnUptoRow : OpenClaim := { program := "ytloackmpmhgkeaa", sum := "60bbdba1c9259e2c8078d1a9d1f3cf82bf1854db410a80c5750f33172041d5be", func := "gossamer/gossamerlaw12.CounterOwn", spec := "counterOwn", unfollowed := true, recurses := true, apart := false, narrowed := true }
def CounterOwnUptoSaid : Prop := counterOwnUptoRow.holds Try.pinned (OpenSpec.upto counterOwnSpec)

end Rows
end Go.Proofs.Ytloackmpmhgkeaa
