/-
  The laws of layer 3 that only read: CrcOfs, CrcParts: each call returns true; under the table's cells.
-/
import Derived.Test.YtgnhjgpcknijnaaDoorCrcWalks
open Go Go.RowKit
namespace Go.Proofs.YtgnhjgpcknijnaaDoor.Crc

theorem v_a : on 0 [97] = 3251651376 := by decide
theorem v_b : on 0 [98] = 3531649220 := by decide
theorem v_ab : on 0 [97, 98] = on (on 0 [97]) [98] := (on_append 0 [97] [98]).symm
theorem v_ne : ((on 0 [97] : Nat) : Int) ≠ ((on 0 [98] : Nat) : Int) := by rw [v_a, v_b]; decide

theorem works_calls (w : World) (hT : TabOk w) :
    Calls Tryd.prog 7 #[] w fun e w' => e = .returned (.bool true) ∧ w = w' := by
  have HT := Lib.hid hT
  clear hT
  have hv := v_ab
  have hn := v_ne
  have hb := bne_iff_ne.2 hn
  clear hn
  go_enter Tryd.func7, Tryd.ntmps7
  go_wp2_with (first | (go_at_call 8; refine (Of_calls _ _ (by decide) HT.out).mono ?_; rintro e w' ⟨rfl, rfl⟩) | (go_at_call 10; refine (On_calls _ _ _ (by decide) (on_lt (by decide) _) HT.out).mono ?_; rintro e w' ⟨rfl, rfl⟩))
  go_ret
  exact ⟨rfl, rfl⟩

set_option maxHeartbeats 400000 in
theorem CrcOfs_calls (s : ByteArray) (r : Nat) (w : World) (hs : s.size ≤ maxLen) (hr : r < 4294967296) (hT : TabOk w) :
    Calls Tryd.prog 3 #[.string s, .int .u32 r] w fun e w' => e = .returned (.bool true) ∧ w = w' := by
  have HT := Lib.hid hT
  have hs' := hs
  unfold maxLen at hs'
  clear hT
  by_cases h : 4096 < s.size
  all_goals
    go_enter Tryd.func3, Tryd.ntmps3
    go_wp2_with (first | (go_at_call 7; refine (works_calls _ HT.out).mono ?_; rintro e w' ⟨rfl, rfl⟩) | (go_at_call 8; refine (Of_calls _ _ hs HT.out).mono ?_; rintro e w' ⟨rfl, rfl⟩) | (go_at_call 9; refine (refOf_calls _ _ hs).mono ?_; rintro e w' ⟨rfl, rfl⟩) | (go_at_call 10; refine (On_calls _ _ _ hs hr HT.out).mono ?_; rintro e w' ⟨rfl, rfl⟩) | (go_at_call 11; refine (refOn_calls _ _ _ hs hr).mono ?_; rintro e w' ⟨rfl, rfl⟩))
    go_ret
    exact ⟨rfl, rfl⟩

theorem toList_append (a b : ByteArray) : (a ++ b).data.toList = a.data.toList ++ b.data.toList := by simp
set_option maxHeartbeats 400000 in
theorem CrcParts_calls (a b : ByteArray) (w : World) (ha : a.size ≤ maxLen) (hb : b.size ≤ maxLen) (hT : TabOk w) (ha2 : a.size ≤ 140737488351232) (hb2 : b.size ≤ 140737488351232) :
    Calls Tryd.prog 4 #[.string a, .string b] w fun e w' => e = .returned (.bool true) ∧ w = w' := by
  have HT := Lib.hid hT
  clear hT
  by_cases h : 8192 < a.size + b.size
  · go_enter Tryd.func4, Tryd.ntmps4
    go_wp2_with (go_at_call 7; refine (works_calls _ HT.out).mono ?_; rintro e w' ⟨rfl, rfl⟩)
    go_ret
    exact ⟨rfl, rfl⟩
  · have hab : (a ++ b).size ≤ maxLen := by rw [ByteArray.size_append]; unfold maxLen; omega
    have hv : on (on 0 a.data.toList) b.data.toList = on 0 (a ++ b).data.toList := by rw [toList_append, on_append]
    go_enter Tryd.func4, Tryd.ntmps4
    go_wp2_with (first | (go_at_call 7; refine (works_calls _ HT.out).mono ?_; rintro e w' ⟨rfl, rfl⟩) | (go_at_call 8; refine (Of_calls _ _ (by assumption) HT.out).mono ?_; rintro e w' ⟨rfl, rfl⟩) | (go_at_call 10; refine (On_calls _ _ _ hb (on_lt (by decide) _) HT.out).mono ?_; rintro e w' ⟨rfl, rfl⟩))
    go_ret
    exact ⟨rfl, rfl⟩
end Go.Proofs.YtgnhjgpcknijnaaDoor.Crc
