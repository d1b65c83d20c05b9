/-
  The walks of layer 6: Cut, and the document's own: what Frame.cut tells; under the sum's table.
-/
import Derived.Test.YtpiaplgbpjgjiaaDoorFrameWalks
open Go Go.RowKit
namespace Go.Proofs.YtpiaplgbpjgjiaaDoor.Frame
open Base Crc

set_option maxHeartbeats 400000 in
theorem Cut_calls (l : List UInt8) (w : World) (hl : l.length ≤ maxLen) (hT : TabOk w) :
    Calls Tryd.prog 43 #[.string (B l)] w fun e w' => e = .returned (.tuple #[.string (B (cut l).1), .string (B (cut l).2.1), .int .i64 ((cut l).2.2 : Nat)]) ∧ ∃ m, w' = w.drewN m := by
  have HT := Lib.hid hT
  clear hT
  have hl' := hl
  unfold maxLen at hl'
  by_cases h8 : l.length < 8
  · have hc := Lib.hid (show cut l = ([], [], 20) from by unfold cut; rw [if_pos h8])
    go_enter Tryd.func43, Tryd.ntmps43
    go_wp2
    go_ret3
    exact ⟨by rw [hc.out]; rfl, 0, rfl⟩
  · have hnl := number_lt l
    have hnc := fun n => number_calls l (w.drewN n) (by omega) hl
    have h8i : (8 : Int) ≤ (l.length : Int) := by omega
    by_cases hn : 1048576 < number l
    · have hc := Lib.hid (show cut l = ([], [], 4) from by unfold cut; rw [if_neg h8, if_pos hn])
      generalize number l = n at *
      go_enter Tryd.func43, Tryd.ntmps43
      go_wp2
      go_quiet ((go_at_call 49; exact Calls.quiet_of (hnc _)))
      go_wp2
      go_ret3
      exact ⟨by rw [hc.out]; rfl, _, rfl⟩
    · by_cases hs : l.length - 8 < number l
      · have hc := Lib.hid (show cut l = ([], [], 20) from by unfold cut; rw [if_neg h8, if_neg hn, if_pos (by simpa using hs)])
        generalize number l = n at *
        go_enter Tryd.func43, Tryd.ntmps43
        go_wp2
        go_quiet ((go_at_call 49; exact Calls.quiet_of (hnc _)))
        go_wp2
        go_ret3
        exact ⟨by rw [hc.out]; rfl, _, rfl⟩
      · have hm4 : (l.take 4).length ≤ maxLen := by rw [List.length_take]; omega
        have hmt : ((l.drop 8).take (number l)).length ≤ maxLen := by rw [List.length_take, List.length_drop]; omega
        have hsu := fun W hT => sum_calls (l.take 4) ((l.drop 8).take (number l)) W hm4 hmt hT
        have hn4 := fun W => number_calls (l.drop 4) W (by rw [List.length_drop]; omega) (by rw [List.length_drop]; omega)
        have ek : List.take (l.length - 8) (List.drop 8 l) = List.drop 8 l := List.take_of_length_le (by simp)
        have ek4 : List.take (l.length - 4) (List.drop 4 l) = List.drop 4 l := List.take_of_length_le (by simp)
        by_cases he : number (l.drop 4) = sum (l.take 4) ((l.drop 8).take (number l))
        · have hc := Lib.hid (show cut l = ((l.drop 8).take (number l), (l.drop 8).drop (number l), 0) from by unfold cut; rw [if_neg h8, if_neg hn, if_neg (by simpa using hs), if_neg (by simpa using he)])
          rw [← he] at hsu
          have hb : (((number (l.drop 4) : Nat) : Int) != ((number (l.drop 4) : Nat) : Int)) = false := by simp
          generalize number (l.drop 4) = x at *
          generalize number l = n at *
          clear he
          go_enter Tryd.func43, Tryd.ntmps43
          go_wp2
          go_quiet ((go_at_call 49; exact Calls.quiet_of (hnc _)))
          go_wp2
          go_region
          go_wp2
          generalize hw2 : (w.drewN nq).drew = w2
          have hT2 : TabOk w2 := by rw [← hw2]; exact HT.out
          have HW2 := Lib.hid hw2
          have HT2 := Lib.hid hT2
          clear hw2 hT2
          go_quiet (first | (go_at_call 49; exact Calls.quiet_of (hn4 _)) | (go_at_call 45; exact quiet (hsu _ (HT2.out.drewN _))))
          go_wp2
          go_ret3
          exact ⟨by rw [hc.out]; simp, _, by rw [← HW2.out]; exact drawn_more _ _ _⟩
        · have hc := Lib.hid (show cut l = ([], [], 60) from by unfold cut; rw [if_neg h8, if_neg hn, if_neg (by simpa using hs), if_pos he])
          have hb : (((number (l.drop 4) : Nat) : Int) != ((sum (l.take 4) ((l.drop 8).take (number l)) : Nat) : Int)) = true := by simp; omega
          generalize sum (l.take 4) ((l.drop 8).take (number l)) = y at *
          generalize number (l.drop 4) = x at *
          generalize number l = n at *
          clear he
          go_enter Tryd.func43, Tryd.ntmps43
          go_wp2
          go_quiet ((go_at_call 49; exact Calls.quiet_of (hnc _)))
          go_wp2
          go_region
          go_wp2
          generalize hw2 : (w.drewN nq).drew = w2
          have hT2 : TabOk w2 := by rw [← hw2]; exact HT.out
          have HW2 := Lib.hid hw2
          have HT2 := Lib.hid hT2
          clear hw2 hT2
          go_quiet (first | (go_at_call 49; exact Calls.quiet_of (hn4 _)) | (go_at_call 45; exact quiet (hsu _ (HT2.out.drewN _))))
          go_wp2
          go_ret3
          exact ⟨by rw [hc.out]; rfl, _, by rw [← HW2.out]; exact drawn_more _ _ _⟩

end Go.Proofs.YtpiaplgbpjgjiaaDoor.Frame
