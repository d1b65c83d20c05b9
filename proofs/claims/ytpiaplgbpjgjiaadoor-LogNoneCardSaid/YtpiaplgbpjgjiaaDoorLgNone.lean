/-
  Logs (layer 8): the statement LogNone, walked. Condition: the text is no longer than a string may be; the sum's table is laid.
-/
import Derived.Test.YtpiaplgbpjgjiaaDoorLgWorks
open Go Go.RowKit
namespace Go.Proofs.YtpiaplgbpjgjiaaDoor.Lg
open Base Mp Dk Frame

set_option maxRecDepth 100000 in
set_option maxHeartbeats 4000000 in
theorem LogNone_calls (w : World) (s : Key) (hs : s.length ≤ maxLen) (hT : Crc.TabOk w) : Calls Tryd.prog 3 #[.string (B s)] w fun e w' => e = .returned (.bool true) ∧ Below w.heap.size w w' := by
  unfold maxLen at hs
  by_cases hl : 4096 < s.length
  · have hl2 : (4096 : Int) < (s.length : Int) := by omega
    go_enter Tryd.func3, Tryd.ntmps3
    go_wp2_with fail
    with_reducible refine (LWorks_f _ hT).mono ?_
    rintro e w1 ⟨rfl, hb⟩
    have HB := Lib.hid hb
    clear hb
    go_wp2
    go_ret
    exact ⟨rfl, HB.out⟩
  · have hl2 : ¬ (4096 : Int) < (s.length : Int) := by omega
    go_enter Tryd.func3, Tryd.ntmps3
    go_wp2_with (first | (go_at_call 9; with_reducible refine (LOpen_nil _ _).mono ?_; rintro e w' ⟨rfl, rfl⟩) | (go_at_call 10; with_reducible refine (LAppend_nil _ _).mono ?_; rintro e w' ⟨rfl, rfl⟩) | (go_at_call 11; with_reducible refine (LSync_nil _).mono ?_; rintro e w' ⟨rfl, rfl⟩) | (go_at_call 12; with_reducible refine (LLen_nil _).mono ?_; rintro e w' ⟨rfl, rfl⟩) | (go_at_call 13; with_reducible refine (LCount_nil _).mono ?_; rintro e w' ⟨rfl, rfl⟩) | (go_at_call 14; with_reducible refine (LSure_nil _).mono ?_; rintro e w' ⟨rfl, rfl⟩))
    have HB1 := Lib.hid ((Below.refl w.heap.size w).alloc (Nat.le_refl _) (.cells #[.string (B s)] 9))
    with_reducible refine (LWorks_f _ (hT.next HB1.out)).mono ?_
    rintro e w1 ⟨rfl, hb⟩
    have HB := Lib.hid (HB1.out.trans (hb.mono HB1.out.size))
    clear hb
    go_wp2
    go_ret
    exact ⟨rfl, HB.out⟩
end Go.Proofs.YtpiaplgbpjgjiaaDoor.Lg
