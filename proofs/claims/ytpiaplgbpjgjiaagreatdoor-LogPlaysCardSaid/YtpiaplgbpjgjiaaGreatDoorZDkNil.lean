/-
  Disks (layer 7): what each call answers at nil. No condition.
-/
import Derived.Test.YtpiaplgbpjgjiaaGreatDoorZDkA
open Go Go.RowKit
namespace Go.Proofs.YtpiaplgbpjgjiaaGreatDoor.Dk
open Base Mp
theorem Create_nil (w : World) (n : Value) : Calls Tryz.prog 24 #[.pointer none, n] w fun e w' => e = .returned (.int .i64 1) ∧ w = w' := by
  go_enter Tryz.func24, Tryz.ntmps24
  go_wp2_with (go_at_call 49; with_reducible refine (There_no _).mono ?_; rintro e w' ⟨rfl, rfl⟩)
  go_ret
  exact ⟨rfl, rfl⟩
theorem Append_nil (w : World) (n : Value) (s : Value) : Calls Tryz.prog 38 #[.pointer none, n, s] w fun e w' => e = .returned (.int .i64 1) ∧ w = w' := by
  go_enter Tryz.func38, Tryz.ntmps38
  go_wp2_with (go_at_call 57; with_reducible refine (Open_nil _ _).mono ?_; rintro e w' ⟨rfl, rfl⟩)
  go_ret
  exact ⟨rfl, rfl⟩
theorem Sync_nil (w : World) (n : Value) : Calls Tryz.prog 28 #[.pointer none, n] w fun e w' => e = .returned (.int .i64 1) ∧ w = w' := by
  go_enter Tryz.func28, Tryz.ntmps28
  go_wp2_with (go_at_call 57; with_reducible refine (Open_nil _ _).mono ?_; rintro e w' ⟨rfl, rfl⟩)
  go_ret
  exact ⟨rfl, rfl⟩
theorem Cut_nil (w : World) (n : Value) (m : Value) : Calls Tryz.prog 26 #[.pointer none, n, m] w fun e w' => e = .returned (.int .i64 1) ∧ w = w' := by
  go_enter Tryz.func26, Tryz.ntmps26
  go_wp2_with (go_at_call 57; with_reducible refine (Open_nil _ _).mono ?_; rintro e w' ⟨rfl, rfl⟩)
  go_ret
  exact ⟨rfl, rfl⟩
theorem Read_nil (w : World) (n : Value) : Calls Tryz.prog 23 #[.pointer none, n] w fun e w' => e = .returned (.tuple #[.string ⟨#[]⟩, .int .i64 1]) ∧ w = w' := by
  go_enter Tryz.func23, Tryz.ntmps23
  go_wp2_with (go_at_call 52; with_reducible refine (Find_nil _ _).mono ?_; rintro e w' ⟨rfl, rfl⟩)
  go_ret2
  exact ⟨rfl, rfl⟩
theorem Spoil_nil (w : World) (n : Value) (m : Value) (y : Value) : Calls Tryz.prog 43 #[.pointer none, n, m, y] w fun e w' => e = .returned (.int .i64 1) ∧ w = w' := by
  go_enter Tryz.func43, Tryz.ntmps43
  go_wp2_with (go_at_call 52; with_reducible refine (Find_nil _ _).mono ?_; rintro e w' ⟨rfl, rfl⟩)
  go_ret
  exact ⟨rfl, rfl⟩
theorem Names_nil (w : World) : Calls Tryz.prog 46 #[.pointer none] w fun e w' => e = .returned (.slice none 0 0) ∧ w = w' := by
  go_enter Tryz.func46, Tryz.ntmps46
  go_wp2_with (go_at_call 49; with_reducible refine (There_no _).mono ?_; rintro e w' ⟨rfl, rfl⟩)
  go_ret
  exact ⟨rfl, rfl⟩
theorem Loose_nil (w : World) (n : Value) : Calls Tryz.prog 27 #[.pointer none, n] w fun e w' => e = .returned (.int .i64 0) ∧ w = w' := by
  go_enter Tryz.func27, Tryz.ntmps27
  go_wp2_with (go_at_call 52; with_reducible refine (Find_nil _ _).mono ?_; rintro e w' ⟨rfl, rfl⟩)
  go_ret
  exact ⟨rfl, rfl⟩
theorem Room_nil (w : World) : Calls Tryz.prog 47 #[.pointer none] w fun e w' => e = .returned (.int .i64 0) ∧ w = w' := by
  go_enter Tryz.func47, Tryz.ntmps47
  go_wp2_with (go_at_call 49; with_reducible refine (There_no _).mono ?_; rintro e w' ⟨rfl, rfl⟩)
  go_ret
  exact ⟨rfl, rfl⟩
theorem Fuse_nil (w : World) (m : Value) : Calls Tryz.prog 44 #[.pointer none, m] w fun e w' => e = .returned (.int .i64 1) ∧ w = w' := by
  go_enter Tryz.func44, Tryz.ntmps44
  go_wp2_with (go_at_call 49; with_reducible refine (There_no _).mono ?_; rintro e w' ⟨rfl, rfl⟩)
  go_ret
  exact ⟨rfl, rfl⟩
theorem Crash_nil (w : World) (k : Value) : Calls Tryz.prog 22 #[.pointer none, k] w fun e w' => e = .returned (.int .i64 1) ∧ w = w' := by
  go_enter Tryz.func22, Tryz.ntmps22
  go_wp2_with (go_at_call 49; with_reducible refine (There_no _).mono ?_; rintro e w' ⟨rfl, rfl⟩)
  go_ret
  exact ⟨rfl, rfl⟩
end Go.Proofs.YtpiaplgbpjgjiaaGreatDoor.Dk
