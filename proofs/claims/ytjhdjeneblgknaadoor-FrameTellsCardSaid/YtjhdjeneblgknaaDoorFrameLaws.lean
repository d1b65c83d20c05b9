/-
  The laws of layer 6, walked: works, FrameRest, FrameTells: each call returns true; under the sum's table.
-/
import Derived.Test.YtjhdjeneblgknaaDoorFrameScan
open Go Go.RowKit
namespace Go.Proofs.YtjhdjeneblgknaaDoor.Frame
open Base Crc

set_option maxHeartbeats 400000 in
theorem works_calls (w : World) (hT : TabOk w) :
    Calls Tryd.prog 8 #[] w fun e w' => e = .returned (.bool true) ∧ Below w.heap.size w w' := by
  have HT := Lib.hid hT
  clear hT
  have hab : (ByteArray.mk #[97, 98]) = B [97, 98] := rfl
  have hxyz : (ByteArray.mk #[120, 121, 122]) = B [120, 121, 122] := rfl
  have hlen : (put [97, 98]).length = 10 := put_length _
  have hc1 : cut (put [97, 98] ++ [120, 121, 122]) = ([97, 98], [120, 121, 122], 0) := cut_put _ _ (by decide)
  have hc2 : cut ((put [97, 98]).take 9) = ([], [], 20) := cut_short _ _ (by decide) (by decide)
  have HC1 := Lib.hid hc1
  have HC2 := Lib.hid hc2
  clear hc1 hc2
  go_enter Tryd.func8, Tryd.ntmps8
  go_wp2_with fail
  refine (Put_calls [97, 98] w (by decide) HT.out).mono ?_
  rintro e w1 ⟨rfl, hb1⟩
  have HT1 := Lib.hid (HT.out.next hb1)
  have HB1 := Lib.hid hb1
  clear hb1
  generalize put [97, 98] = p at *
  go_wp2_with fail
  refine (Cut_calls _ w1 (by simp [hlen, maxLen]) HT1.out).mono ?_
  rintro e w2 ⟨rfl, hw2⟩
  rw [HC1.out]
  have hb2 : Below w1.heap.size w1 w2 := by obtain ⟨m, rfl⟩ := hw2; exact (Below.refl _ _).drewN m
  have HT2 := Lib.hid (HT1.out.next hb2)
  have HB2 := Lib.hid hb2
  clear hb2 hw2
  go_wp2_with fail
  refine (Cut_calls _ w2 (by rw [List.length_take]; unfold maxLen; omega) HT2.out).mono ?_
  rintro e w3 ⟨rfl, hw3⟩
  rw [HC2.out]
  have hb3 : Below w2.heap.size w2 w3 := by obtain ⟨m, rfl⟩ := hw3; exact (Below.refl _ _).drewN m
  have HB3 := Lib.hid hb3
  clear hb3 hw3
  go_wp2_with (go_at_call 11; refine (Size_calls [97, 98] _ (by decide)).mono ?_; rintro e w' ⟨rfl, rfl⟩)
  go_ret
  exact ⟨rfl, later (later HB1.out HB2.out) HB3.out⟩

set_option maxHeartbeats 1000000 in
theorem Rest_calls (a b r : List UInt8) (w : World) (h : a.length + b.length + r.length ≤ 4096) (hT : TabOk w) :
    Calls Tryd.prog 4 #[.string (B a), .string (B b), .string (B r)] w fun e w' => e = .returned (.bool true) ∧ Below w.heap.size w w' := by
  have HT := Lib.hid hT
  clear hT
  have hd : decide ((4096 : Int) < (a.length : Int) + (b.length : Int) + (r.length : Int)) = false := by simp; omega
  have hxy : (put a == put b) = (a == b) := by
    rw [Bool.eq_iff_iff, beq_iff_eq, beq_iff_eq]; exact put_inj (by omega) (by omega)
  have HX := Lib.hid hxy
  have HC1 := Lib.hid (cut_put a r (by omega))
  have hla := put_length a
  have hlx : (put a).length + r.length ≤ 1048576 := by omega
  clear hxy hla
  go_enter Tryd.func4, Tryd.ntmps4
  go_wp2_with fail
  refine (Put_calls a w (by omega) HT.out).mono ?_
  rintro e w1 ⟨rfl, hb1⟩
  have HT1 := Lib.hid (HT.out.next hb1)
  have HB1 := Lib.hid hb1
  clear hb1
  go_wp2_with fail
  refine (Put_calls b w1 (by omega) HT1.out).mono ?_
  rintro e w2 ⟨rfl, hb2⟩
  have HT2 := Lib.hid (HT1.out.next hb2)
  have HB2 := Lib.hid hb2
  clear hb2
  generalize put a = pa at *
  generalize put b = pb at *
  go_wp2_with fail
  refine (Cut_calls _ w2 (by rw [List.length_append]; unfold maxLen; omega) HT2.out).mono ?_
  rintro e w3 ⟨rfl, hw3⟩
  rw [HC1.out]
  have hb3 := drawn_below hw3
  have HT3 := Lib.hid (HT2.out.next hb3)
  have HB3 := Lib.hid hb3
  clear hb3 hw3
  go_wp2_with fail
  refine (Cut_calls _ w3 (by unfold maxLen; omega) HT3.out).mono ?_
  rintro e w4 ⟨rfl, hw4⟩
  have hb4 := drawn_below hw4
  have HT4 := Lib.hid (HT3.out.next hb4)
  have HB4 := Lib.hid hb4
  clear hb4 hw4
  go_wp2_with fail
  refine (Cut_calls _ w4 (by unfold maxLen; omega) HT4.out).mono ?_
  rintro e w5 ⟨rfl, hw5⟩
  have hb5 := drawn_below hw5
  have HT5 := Lib.hid (HT4.out.next hb5)
  have HB5 := Lib.hid hb5
  clear hb5 hw5
  generalize (cut r).1 = u at *
  generalize (cut r).2.1 = more at *
  generalize (cut r).2.2 = ee at *
  have hxy := HX.out
  go_wp2_with fail
  refine (works_calls w5 HT5.out).mono ?_
  rintro e w6 ⟨rfl, hb6⟩
  have HB6 := Lib.hid hb6
  clear hb6
  go_wp2
  go_ret
  exact ⟨rfl, later (later (later (later (later HB1.out HB2.out) HB3.out) HB4.out) HB5.out) HB6.out⟩
theorem FrameRest_calls (a b r : List UInt8) (w : World) (ha : a.length ≤ 140737488351232) (hb : b.length ≤ 140737488351232) (hr : r.length ≤ 140737488351232) (hT : TabOk w) :
    Calls Tryd.prog 4 #[.string (B a), .string (B b), .string (B r)] w fun e w' => e = .returned (.bool true) ∧ Below w.heap.size w w' := by
  by_cases h : a.length + b.length + r.length ≤ 4096
  · exact Rest_calls a b r w h hT
  · have HT := Lib.hid hT
    clear hT
    have hd : decide ((4096 : Int) < (a.length : Int) + (b.length : Int) + (r.length : Int)) = true := by simp; omega
    clear h
    go_enter Tryd.func4, Tryd.ntmps4
    go_wp2_with (go_at_call 8; refine (works_calls _ HT.out).mono ?_; rintro e w' ⟨rfl, hb6⟩)
    go_ret
    exact ⟨rfl, hb6⟩

set_option maxHeartbeats 1000000 in
theorem Tells_calls (t s : List UInt8) (w : World) (h1 : t.length ≤ 4096) (h2 : s.length ≤ 4096) (hT : TabOk w) :
    Calls Tryd.prog 5 #[.string (B t), .string (B s)] w fun e w' => e = .returned (.bool true) ∧ Below w.heap.size w w' := by
  have HT := Lib.hid hT
  clear hT
  have hd1 : decide ((4096 : Int) < (t.length : Int)) = false := by simp; omega
  have hd2 : decide ((1048586 : Int) < (t.length : Int)) = false := by simp; omega
  have hd3 : decide ((4096 : Int) < (s.length : Int)) = false := by simp; omega
  have hd4 : decide ((1048576 : Int) < (t.length : Int)) = false := by simp; omega
  have hlen := put_length t
  have hle := scanAll_left s
  have hts : (scanAll s).1.length ≤ maxLen := by have := scanAll_count s; unfold maxLen; omega
  go_enter Tryd.func5, Tryd.ntmps5
  go_wp2_with fail
  refine (Put_calls t w (by omega) HT.out).mono ?_
  rintro e w1 ⟨rfl, hb1⟩
  have HT1 := Lib.hid (HT.out.next hb1)
  have HB1 := Lib.hid hb1
  clear hb1
  go_wp2_with fail
  refine (Cut_calls _ w1 (by unfold maxLen; omega) HT1.out).mono ?_
  rintro e w2 ⟨rfl, hw2⟩
  have hb2 := drawn_below hw2
  have HT2 := Lib.hid (HT1.out.next hb2)
  have HB2 := Lib.hid hb2
  clear hb2 hw2
  go_wp2_with fail
  refine (refCut_calls _ w2 (by unfold maxLen; omega)).mono ?_
  rintro e w3 ⟨rfl, hw3⟩
  have hb3 := drawn_below hw3
  have HT3 := Lib.hid (HT2.out.next hb3)
  have HB3 := Lib.hid hb3
  clear hb3 hw3
  go_wp2_with fail
  refine (Scan_calls _ w3 (by omega) HT3.out).mono ?_
  rintro e w4 ⟨v4, rfl, ho4, hb4⟩
  obtain ⟨p4, c4, rfl, hr4, _, _⟩ := RowArg.of_own ho4
  have HR4 := Lib.hid hr4
  have HT4 := Lib.hid (HT3.out.next hb4)
  have HB4 := Lib.hid hb4
  clear hb4 ho4 hr4
  go_wp2_with fail
  refine (refScan_calls _ w4 (by omega)).mono ?_
  rintro e w5 ⟨v5, rfl, ho5, hb5⟩
  obtain ⟨p5, c5, rfl, hr5, _, _⟩ := RowArg.of_own ho5
  have HR5 := Lib.hid hr5
  have HT5 := Lib.hid (HT4.out.next hb5)
  have HB5 := Lib.hid hb5
  clear hb5 ho5 hr5
  go_wp2_with fail
  refine (refPut_calls t w5 (by omega)).mono ?_
  rintro e w6 ⟨rfl, hb6⟩
  have HT6 := Lib.hid (HT5.out.next hb6)
  have HB6 := Lib.hid hb6
  clear hb6
  generalize put t = pt at *
  generalize (cut s).1 = c1 at *
  generalize (cut s).2.1 = c2 at *
  generalize (cut s).2.2 = c3 at *
  generalize (scanAll s).1 = ts at *
  generalize (scanAll s).2.1 = left at *
  generalize (scanAll s).2.2 = ee at *
  go_wp2_with (go_at_call 11; refine (Size_calls t _ (by omega)).mono ?_; rintro e w' ⟨rfl, rfl⟩)
  refine (same_calls p4 p5 ts ts c4 c5 w6 hts hts ((HR4.out.below HB5.out).below HB6.out) (HR5.out.below HB6.out)).mono ?_
  rintro e w7 ⟨rfl, hw7⟩
  have hb7 := drawn_below hw7
  have HT7 := Lib.hid (HT6.out.next hb7)
  have HB7 := Lib.hid hb7
  clear hb7 hw7
  go_wp2_with fail
  refine (works_calls w7 HT7.out).mono ?_
  rintro e w8 ⟨rfl, hb8⟩
  have HB8 := Lib.hid hb8
  clear hb8
  go_wp2
  go_ret
  exact ⟨rfl, later (later (later (later (later (later (later HB1.out HB2.out) HB3.out) HB4.out) HB5.out) HB6.out) HB7.out) HB8.out⟩

set_option maxHeartbeats 400000 in
theorem FrameTells_calls (t s : List UInt8) (w : World) (ht : t.length ≤ 140737488351232) (hs : s.length ≤ 140737488351232) (hT : TabOk w) :
    Calls Tryd.prog 5 #[.string (B t), .string (B s)] w fun e w' => e = .returned (.bool true) ∧ Below w.heap.size w w' := by
  by_cases h : t.length ≤ 4096 ∧ s.length ≤ 4096
  · exact Tells_calls t s w h.1 h.2 hT
  · have HT := Lib.hid hT
    clear hT
    by_cases h3 : 4096 < s.length
    · have hd3 : decide ((4096 : Int) < (s.length : Int)) = true := by simp; omega
      have works := works_calls w HT.out
      have HW := Lib.hid works
      clear works h
      by_cases h1 : 4096 < t.length <;> by_cases h2 : t.length ≤ 1048576 <;> by_cases h4 : 1048586 < t.length
      all_goals first | (exfalso; omega) | skip
      all_goals
        go_enter Tryd.func5, Tryd.ntmps5
        go_wp2_with (go_at_call 8; refine HW.out.mono ?_; rintro e w' ⟨rfl, hb6⟩)
        go_ret
        exact ⟨rfl, hb6⟩
    · have h1 : 4096 < t.length := by omega
      by_cases h2 : t.length ≤ 1048576
      · have HW := Lib.hid (works_calls w HT.out)
        clear h
        go_enter Tryd.func5, Tryd.ntmps5
        go_wp2_with (go_at_call 8; refine HW.out.mono ?_; rintro e w' ⟨rfl, hb6⟩)
        go_ret
        exact ⟨rfl, hb6⟩
      · by_cases h4 : 1048586 < t.length
        · have HW := Lib.hid (works_calls w HT.out)
          clear h
          go_enter Tryd.func5, Tryd.ntmps5
          go_wp2_with (go_at_call 8; refine HW.out.mono ?_; rintro e w' ⟨rfl, hb6⟩)
          go_ret
          exact ⟨rfl, hb6⟩
        · have HW := Lib.hid (works_calls w HT.out)
          have HP := Lib.hid (Put_long t w (by omega) (by unfold maxLen; omega))
          clear h
          go_enter Tryd.func5, Tryd.ntmps5
          go_wp2_with (first | (go_at_call 8; refine HW.out.mono ?_; rintro e w' ⟨rfl, hb6⟩) | (go_at_call 9; refine HP.out.mono ?_; rintro e w' ⟨rfl, rfl⟩) | (go_at_call 11; refine (Size_calls t _ (by omega)).mono ?_; rintro e w' ⟨rfl, rfl⟩))
          go_ret
          exact ⟨rfl, hb6⟩
end Go.Proofs.YtjhdjeneblgknaaDoor.Frame
