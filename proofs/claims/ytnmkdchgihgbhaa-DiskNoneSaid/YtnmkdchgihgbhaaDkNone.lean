/-
  Disks (layer 7): the statement DiskNone, walked. No condition but that the name is no longer than a string may be.
-/
import Derived.Test.YtnmkdchgihgbhaaDkWorks
open Go Go.RowKit
namespace Go.Proofs.Ytnmkdchgihgbhaa.Dk
open Base Mp

set_option maxRecDepth 100000 in
set_option maxHeartbeats 4000000 in
theorem DiskNone_calls (w : World) (n : List UInt8) (m : Int) (hn : n.length ≤ maxLen) : Calls Try.prog 6 #[.string (B n), .int .i64 m] w fun e w' => e = .returned (.bool true) ∧ Below w.heap.size w w' := by
  unfold maxLen at hn
  by_cases hl : 4096 < n.length
  · have hl2 : (4096 : Int) < (n.length : Int) := by omega
    go_enter Try.func6, Try.ntmps6
    go_wp2_with fail
    with_reducible refine (Works_f _).mono ?_
    rintro e w1 ⟨rfl, hb⟩
    have HB := Lib.hid hb
    clear hb
    go_wp2
    go_ret
    exact ⟨rfl, HB.out⟩
  · have hl2 : ¬ (4096 : Int) < (n.length : Int) := by omega
    go_enter Try.func6, Try.ntmps6
    go_wp2_with (first | (go_at_call 9; with_reducible refine (Create_nil _ _).mono ?_; rintro e w' ⟨rfl, rfl⟩) | (go_at_call 19; with_reducible refine (Append_nil _ _ _).mono ?_; rintro e w' ⟨rfl, rfl⟩) | (go_at_call 20; with_reducible refine (Sync_nil _ _).mono ?_; rintro e w' ⟨rfl, rfl⟩) | (go_at_call 21; with_reducible refine (Cut_nil _ _ _).mono ?_; rintro e w' ⟨rfl, rfl⟩) | (go_at_call 10; with_reducible refine (Remove_nil _ _).mono ?_; rintro e w' ⟨rfl, rfl⟩) | (go_at_call 15; with_reducible refine (Read_nil _ _).mono ?_; rintro e w' ⟨rfl, rfl⟩) | (go_at_call 22; with_reducible refine (Spoil_nil _ _ _ _).mono ?_; rintro e w' ⟨rfl, rfl⟩) | (go_at_call 11; with_reducible refine (Names_nil _).mono ?_; rintro e w' ⟨rfl, rfl⟩) | (go_at_call 16; with_reducible refine (Loose_nil _ _).mono ?_; rintro e w' ⟨rfl, rfl⟩) | (go_at_call 18; with_reducible refine (Room_nil _).mono ?_; rintro e w' ⟨rfl, rfl⟩) | (go_at_call 23; with_reducible refine (Fuse_nil _ _).mono ?_; rintro e w' ⟨rfl, rfl⟩) | (go_at_call 17; with_reducible refine (Crash_nil _ _).mono ?_; rintro e w' ⟨rfl, rfl⟩) | (go_at_call 24; with_reducible refine (Copy_nil _).mono ?_; rintro e w' ⟨rfl, rfl⟩))
    have HB1 := Lib.hid ((Below.refl w.heap.size w).alloc (Nat.le_refl _) (.cells #[.int .i64 m] 3))
    with_reducible refine (Works_f _).mono ?_
    rintro e w1 ⟨rfl, hb⟩
    have HB := Lib.hid (HB1.out.trans (hb.mono HB1.out.size))
    clear hb
    go_wp2
    go_ret
    exact ⟨rfl, HB.out⟩
end Go.Proofs.Ytnmkdchgihgbhaa.Dk
