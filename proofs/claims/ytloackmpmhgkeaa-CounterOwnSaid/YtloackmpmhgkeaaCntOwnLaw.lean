/-
  Counters (layer 12): CounterOwn, its cases joined. No condition.
-/
import Derived.Test.YtloackmpmhgkeaaCntOwnFull
import Derived.Test.YtloackmpmhgkeaaCntOwnYes
open Go Go.RowKit
namespace Go.Proofs.Ytloackmpmhgkeaa.Cnt
open Base

theorem CounterOwn_calls (w : World) (p : Option Addr) (cap : Nat) (l : List CntD) (k o : Key) (n : Int) (h : CntsArg w p l) (hl : l.length ≤ maxLen) (hk : k.length ≤ maxLen) (ho : o.length ≤ maxLen) (n1 : -9223372036854775808 ≤ n) (n2 : n ≤ 9223372036854775807) :
    Calls Try.prog 6 #[.slice p l.length cap, .string (B k), .string (B o), .int .i64 n] w fun e w' => e = .returned (.bool true) ∧ Below w.heap.size w w' := by
  by_cases h1 : 60 < (l.length : Int) ∨ may l = false
  · exact Own_long w p cap l k o n h hl h1
  · have la : ¬ 60 < (l.length : Int) := fun e => h1 (.inl e)
    have hm : may l = true := by
      cases hm : may l
      · exact absurd (.inr hm) h1
      · rfl
    by_cases hr : -9223372036854775808 ≤ valE l + n ∧ valE l + n ≤ 9223372036854775807
    · by_cases hf : (fOf l k).1 + n.toNat ≤ 2 ^ 63 ∧ (fOf l k).2 + (-n).toNat ≤ 2 ^ 63
      · exact Own_yes w p cap l k o n h la hm n1 n2 hr hf hk ho
      · exact Own_full w p cap l k o n h la hm n1 n2 hr (by omega) hk
    · exact Own_over w p cap l k o n h la hm n1 n2 hr
end Go.Proofs.Ytloackmpmhgkeaa.Cnt
