/-
  NetNone (layer 30): what no net answers. Condition: the text is no longer than a string may be.
-/
import Derived.Test.YtplfnjpoikhmbaaNtWorks
open Go Go.RowKit
namespace Go.Proofs.Ytplfnjpoikhmbaa.Nt
open Base Mp

theorem Lost_no (w : World) : Calls Try.prog 17 #[.pointer none] w fun e w' => e = .returned (.int .u64 0) ∧ w' = w := by
  have HT := Lib.hid (There_no w)
  go_enter Try.func17, Try.ntmps17
  go_wp2_with fail
  with_reducible refine HT.out.mono ?_
  rintro e w1 ⟨rfl, rfl⟩
  go_wp2
  go_ret
  exact ⟨rfl, rfl⟩
theorem All_no (w : World) : Calls Try.prog 12 #[.pointer none] w fun e w' => e = .returned (.slice none 0 0) ∧ w' = w := by
  have HT := Lib.hid (There_no w)
  go_enter Try.func12, Try.ntmps12
  go_wp2_with fail
  with_reducible refine HT.out.mono ?_
  rintro e w1 ⟨rfl, rfl⟩
  go_wp2
  go_ret
  exact ⟨rfl, rfl⟩
theorem Turn_no (w : World) (n m y : Int) : Calls Try.prog 11 #[.pointer none, .int .u64 n, .int .i64 m, .int .u8 y] w fun e w' => e = .returned (.int .i64 1) ∧ w' = w := by
  have HT := Lib.hid (There_no w)
  go_enter Try.func11, Try.ntmps11
  go_wp2_with fail
  with_reducible refine HT.out.mono ?_
  rintro e w1 ⟨rfl, rfl⟩
  go_wp2
  go_ret
  exact ⟨rfl, rfl⟩
theorem Double_no (w : World) (n : Int) : Calls Try.prog 16 #[.pointer none, .int .u64 n] w fun e w' => e = .returned (.tuple #[.int .u64 0, .int .i64 1]) ∧ w' = w := by
  have HT := Lib.hid (There_no w)
  go_enter Try.func16, Try.ntmps16
  go_wp2_with fail
  with_reducible refine HT.out.mono ?_
  rintro e w1 ⟨rfl, rfl⟩
  go_wp2
  go_ret2
  exact ⟨rfl, rfl⟩
theorem Drop_no (w : World) (v : Value) : Calls Try.prog 15 #[.pointer none, v] w fun e w' => e = .returned (.int .i64 0) ∧ w' = w := by
  have HT := Lib.hid (There_no w)
  go_enter Try.func15, Try.ntmps15
  go_wp2_with fail
  with_reducible refine HT.out.mono ?_
  rintro e w1 ⟨rfl, rfl⟩
  go_wp2
  go_ret
  exact ⟨rfl, rfl⟩
theorem Send_no (w : World) (u v : Value) : Calls Try.prog 10 #[.pointer none, u, v] w fun e w' => e = .returned (.int .i64 0) ∧ w' = w := by
  have HT := Lib.hid (There_no w)
  go_enter Try.func10, Try.ntmps10
  go_wp2_with fail
  with_reducible refine HT.out.mono ?_
  rintro e w1 ⟨rfl, rfl⟩
  go_wp2
  go_ret
  exact ⟨rfl, rfl⟩
set_option maxRecDepth 100000 in
set_option maxHeartbeats 4000000 in
theorem Take_no (w : World) (n : Int) : Calls Try.prog 13 #[.pointer none, .int .u64 n] w fun e w' => e = .returned (.tuple #[.agg #[.int .u64 0, .string ⟨#[]⟩, .string ⟨#[]⟩], .int .i64 1]) ∧ Below w.heap.size w w' := by
  have hb1 : Below w.heap.size w (w.alloc (.cells #[.int .u64 0, .string ⟨#[]⟩, .string ⟨#[]⟩] 32)) := (Below.refl _ _).alloc (Nat.le_refl _) _
  have HT := Lib.hid (There_no (w.alloc (.cells #[.int .u64 0, .string ⟨#[]⟩, .string ⟨#[]⟩] 32)))
  have hz : GramAt (w.alloc (.cells #[.int .u64 0, .string ⟨#[]⟩, .string ⟨#[]⟩] 32)) w.heap.size zeroG := gram_made w zeroG
  have HZ := Lib.hid hz
  have HB := Lib.hid hb1
  obtain ⟨z0, z1, z2, y0, y1, y2⟩ := hz.cells
  clear hz hb1
  go_enter Try.func13, Try.ntmps13
  go_wp2_with fail
  with_reducible refine HT.out.mono ?_
  rintro e w1 ⟨rfl, rfl⟩
  go_wp2
  have HP := Lib.hid (HZ.out.put (g' := zeroG))
  first
    | refine bodyPost_ret (results_ct rfl _ _ _ ⟨w.heap.size, 0, none⟩ rfl (gramV zeroG) (load_gram HP.out)) rfl ?_
    | refine bodyPost_ret (results_ct rfl _ _ _ ⟨w.heap.size, 0, none⟩ rfl (gramV zeroG) (load_gram HZ.out)) rfl ?_
  first
    | exact ⟨rfl, ((HB.out.setCell (p := ⟨w.heap.size, 0, none⟩) (Nat.le_refl _) _).setCell (p := ⟨w.heap.size, 1, none⟩) (Nat.le_refl _) _).setCell (p := ⟨w.heap.size, 2, none⟩) (Nat.le_refl _) _⟩
    | exact ⟨rfl, HB.out⟩
set_option maxRecDepth 100000 in
set_option maxHeartbeats 4000000 in
theorem NetNone_calls (w : World) (n : Nat) (s : List UInt8) (hs : s.length ≤ maxLen) : Calls Try.prog 7 #[.int .u64 (n : Int), .string (B s)] w fun e w' => e = .returned (.bool true) ∧ Below w.heap.size w w' := by
  unfold maxLen at hs
  by_cases hl : 4096 < s.length
  · have t1 : (4096 : Int) < (s.length : Int) := by omega
    have HW := Lib.hid (Works_f w)
    go_enter Try.func7, Try.ntmps7
    go_wp2_with fail
    with_reducible refine HW.out.mono ?_
    rintro e w1 ⟨rfl, hb⟩
    have HB := Lib.hid hb
    clear hb
    go_wp2
    go_ret
    exact ⟨rfl, HB.out⟩
  · have t1 : ¬ (4096 : Int) < (s.length : Int) := by omega
    have HT := Lib.hid (Take_no w (n : Int))
    go_enter Try.func7, Try.ntmps7
    go_wp2_with fail
    with_reducible refine HT.out.mono ?_
    rintro e w1 ⟨rfl, hb⟩
    have HB := Lib.hid hb
    clear hb
    go_wp2_with fail
    refine (Double_no _ _).mono ?_
    rintro e w2 ⟨rfl, rfl⟩
    go_wp2_with fail
    refine (Send_no _ _ _).mono ?_
    rintro e w2 ⟨rfl, rfl⟩
    go_wp2_with fail
    have HB2 := Lib.hid (((HB.out.alloc HB.out.size (.cells #[.int .u64 0, .string ⟨#[]⟩, .string ⟨#[]⟩] 32)).alloc (by rw [alloc_more]; have := HB.out.size; omega) (.cells #[.string (B s)] 9)).alloc (by rw [alloc_more, alloc_more]; have := HB.out.size; omega) (.cells #[.int .u64 (n : Int)] 28))
    refine (Drop_no _ _).mono ?_
    rintro e w2 ⟨rfl, rfl⟩
    go_wp2_with fail
    refine (Turn_no _ _ _ _).mono ?_
    rintro e w2 ⟨rfl, rfl⟩
    go_wp2_with fail
    refine (All_no _).mono ?_
    rintro e w2 ⟨rfl, rfl⟩
    go_wp2_with fail
    refine (Lost_no _).mono ?_
    rintro e w2 ⟨rfl, rfl⟩
    go_wp2_with fail
    refine (Works_f _).mono ?_
    rintro e w2 ⟨rfl, hb⟩
    have HB3 := Lib.hid (HB2.out.trans (hb.mono HB2.out.size))
    clear hb
    go_wp2
    go_ret
    exact ⟨rfl, HB3.out⟩
end Go.Proofs.Ytplfnjpoikhmbaa.Nt
