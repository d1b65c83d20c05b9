/-
  The walk of layer 4's known case ('works').
-/
import Derived.Test.YtjhmpoekpambaaaDoorShaOf
open Go Go.RowKit
namespace Go.Proofs.YtjhmpoekpambaaaDoor.Sha
open Base

set_option maxHeartbeats 4000000 in
set_option maxRecDepth 100000 in
theorem works_calls (w : World) (hO : Ok w) : Calls Tryd.prog 7 #[] w fun e w' => e = .returned (.bool true) ∧ Below w.heap.size w w' := by
  have HOK := Lib.hid hO
  have HN := Lib.hid (New_calls w hO.start)
  have hlow := hO.low.1
  clear hO
  go_enter Tryd.func7, Tryd.ntmps7
  go_wp2_with fail
  refine HN.out.mono ?_
  clear HN
  rintro e w1 ⟨rfl, hh, hb⟩
  have HB1 := Lib.hid hb
  have HA1 := Lib.hid (show Calls Tryd.prog 11 #[.pointer (some ⟨w.heap.size, 0, none⟩), .string ⟨#[97]⟩] w1 fun e w' => e = .returned (.tuple #[]) ∧ HashAt w' w.heap.size [97] ∧ Kept (fun i => i = w.heap.size) w1 w' from Add_calls w1 w.heap.size [] [97] hh (HOK.out.below hb).tab (by omega) (by simp))
  clear hh hb
  go_wp2_with fail
  refine HA1.out.mono ?_
  clear HA1
  rintro e w2 ⟨rfl, hh, hkp⟩
  have hb2 := HB1.out.trans (hkp.below (fun i hi => by rw [hi]; exact Nat.le_refl _) HB1.out.size)
  have HB2 := Lib.hid hb2
  have HA2 := Lib.hid (show Calls Tryd.prog 11 #[.pointer (some ⟨w.heap.size, 0, none⟩), .string ⟨#[98]⟩] w2 fun e w' => e = .returned (.tuple #[]) ∧ HashAt w' w.heap.size [97, 98] ∧ Kept (fun i => i = w.heap.size) w2 w' from Add_calls w2 w.heap.size [97] [98] hh (HOK.out.below hb2).tab (by omega) (by simp))
  clear hh hkp hb2 HB1
  go_wp2_with fail
  refine HA2.out.mono ?_
  clear HA2
  rintro e w3 ⟨rfl, hh, hkp⟩
  have hb3 := HB2.out.trans (hkp.below (fun i hi => by rw [hi]; exact Nat.le_refl _) HB2.out.size)
  have HB3 := Lib.hid hb3
  have HH3 := Lib.hid hh
  have HF1 := Lib.hid (show Calls Tryd.prog 8 #[.slice none 0 0] w3 fun e w' => e = .returned (.string (B (digest []))) ∧ Below w3.heap.size w3 w' from Of_calls w3 none 0 [] (HOK.out.below hb3) (by simp) (fun j hj => by simp at hj) (by simp))
  have hd0 := digest_length []
  clear hh hkp hb3 HB2
  generalize digest [] = d0 at *
  go_wp2_with fail
  refine HF1.out.mono ?_
  clear HF1
  rintro e w4 ⟨rfl, hb⟩
  have HH4 := Lib.hid (HH3.out.below hb)
  have hb4 := later HB3.out hb
  have HB4 := Lib.hid hb4
  have HS := Lib.hid (Sum_calls w4 w.heap.size [97, 98] HH4.out (HOK.out.below hb4).tab (by simp))
  clear hb hb4 HB3 HH3
  go_wp2_with fail
  refine HS.out.mono ?_
  clear HS
  rintro e w5 ⟨rfl, hb⟩
  have HH5 := Lib.hid (HH4.out.below hb)
  have HB5 := Lib.hid (later HB4.out hb)
  have hba : Below w5.heap.size w5 (w5.alloc (.cells #[.string ⟨#[97, 98]⟩] 9)) := (Below.refl _ _).alloc (Nat.le_refl _) _
  have HB6 := Lib.hid (later HB5.out hba)
  have HH6 := Lib.hid (HH5.out.below hba)
  have HF2 := Lib.hid (show Calls Tryd.prog 8 #[.slice (some ⟨w5.heap.size, 0, none⟩) 1 1] (w5.alloc (.cells #[.string ⟨#[97, 98]⟩] 9)) fun e w' => e = .returned (.string (B (digest [97, 98]))) ∧ Below (w5.alloc (.cells #[.string ⟨#[97, 98]⟩] 9)).heap.size (w5.alloc (.cells #[.string ⟨#[97, 98]⟩] 9)) w' from
    Of_calls _ (some ⟨w5.heap.size, 0, none⟩) 1 [[97, 98]] (HOK.out.below HB6.out) (by unfold maxLen; simp) (row_made w5 [[97, 98]] 9 #[.string ⟨#[97, 98]⟩] rfl) (by simp))
  clear hb hba HH4 HB4 HH5 HB5
  generalize digest [97, 98] = d2 at *
  go_wp2_with fail
  refine HF2.out.mono ?_
  clear HF2
  rintro e w7 ⟨rfl, hb⟩
  have HH7 := Lib.hid (HH6.out.below hb)
  have hb7 := later HB6.out hb
  have HB7 := Lib.hid hb7
  have HL := Lib.hid (Len_calls w7 w.heap.size [97, 98] HH7.out)
  have HP := Lib.hid (show Calls Tryd.prog 14 #[.string ⟨#[120]⟩, .string ⟨#[121]⟩] w7 fun e w' => e = .returned (.string (B (digest [1, 120, 121]))) ∧ Below w7.heap.size w7 w' from Pair_calls w7 [120] [121] (HOK.out.below hb7) (by simp))
  clear hb hb7 HB6 HH6
  go_wp2_with fail
  refine HL.out.mono ?_
  clear HL
  rintro e w8 ⟨rfl, rfl⟩
  go_wp2_with fail
  refine HP.out.mono ?_
  clear HP
  rintro e w9 ⟨rfl, hb⟩
  have HB9 := Lib.hid (later HB7.out hb)
  have hba : Below w9.heap.size w9 (w9.alloc (.cells #[.string ⟨#[1, 120]⟩, .string ⟨#[121]⟩] 9)) := (Below.refl _ _).alloc (Nat.le_refl _) _
  have HB10 := Lib.hid (later HB9.out hba)
  have HF3 := Lib.hid (show Calls Tryd.prog 8 #[.slice (some ⟨w9.heap.size, 0, none⟩) 2 2] (w9.alloc (.cells #[.string ⟨#[1, 120]⟩, .string ⟨#[121]⟩] 9)) fun e w' => e = .returned (.string (B (digest [1, 120, 121]))) ∧ Below (w9.alloc (.cells #[.string ⟨#[1, 120]⟩, .string ⟨#[121]⟩] 9)).heap.size (w9.alloc (.cells #[.string ⟨#[1, 120]⟩, .string ⟨#[121]⟩] 9)) w' from
    Of_calls _ (some ⟨w9.heap.size, 0, none⟩) 2 [[1, 120], [121]] (HOK.out.below HB10.out) (by unfold maxLen; simp) (row_made w9 [[1, 120], [121]] 9 #[.string ⟨#[1, 120]⟩, .string ⟨#[121]⟩] rfl) (by simp))
  clear hb hba HB9 HB7
  generalize digest [1, 120, 121] = d3 at *
  go_wp2_with fail
  refine HF3.out.mono ?_
  clear HF3
  rintro e w11 ⟨rfl, hb⟩
  have HB11 := Lib.hid (later HB10.out hb)
  clear hb
  go_wp2
  go_ret
  exact ⟨rfl, HB11.out⟩
end Go.Proofs.YtjhmpoekpambaaaDoor.Sha
