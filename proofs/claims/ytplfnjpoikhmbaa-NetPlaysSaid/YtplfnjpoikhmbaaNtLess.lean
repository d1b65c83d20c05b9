/-
  The net (layer 30): the order of two numbers of 64 bits, as the sort asks for it.
-/
import Derived.Test.YtplfnjpoikhmbaaProg
import Derived.Test.YtplfnjpoikhmbaaBase
import Derived.Sort.WalkA
open Go Go.RowKit
namespace Go.Proofs.Ytplfnjpoikhmbaa.Nt
open Base

theorem Nan_f (x : Int) (w : World) : Calls Try.prog 49 #[.int .u64 x] w fun e w' => e = .returned (.bool false) ∧ w' = w := by
  go_enter Try.func49, Try.ntmps49
  go_wp2
  go_ret
  exact ⟨by simp, rfl⟩
theorem Less_f (x y : Int) (w : World) : Calls Try.prog 39 #[.int .u64 x, .int .u64 y] w fun e w' => e = .returned (.bool (Sort.ltInt x y)) ∧ w' = w := by
  go_enter Try.func39, Try.ntmps39
  go_wp2_with (go_at_call 49; refine (Nan_f _ _).mono ?_; rintro e w' ⟨rfl, rfl⟩)
  go_ret
  exact ⟨rfl, rfl⟩
end Go.Proofs.Ytplfnjpoikhmbaa.Nt
