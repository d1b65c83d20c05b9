/-
  Swim (layer 22): the statement SwimNone, walked. Condition: the numbers are of their kinds.
-/
import Derived.Test.YtekjmkjghlbkbaaSwWorks
open Go Go.RowKit Go.Sort
namespace Go.Proofs.Ytekjmkjghlbkbaa.Sw
open Base

def sN0 : SwD := ⟨5, 2, 2, 0, false, [], 0, 0, false⟩
theorem gotN (W : World) (b : Nat) (s : SwD) (h : SwAt W b s) (ho : s.open_ = false) (n : Int) (hn : n = 0 ∨ n = 1) : Calls Try.prog 11 #[.pointer (some ⟨b, 0, none⟩), .int .u64 n] W fun e w' => e = .returned (.bool false) ∧ W = w' := by
  rcases hn with rfl | rfl
  · exact Got_no W b s 0 h (.inl ho)
  · exact Got_no W b s 1 h (.inl ho)
theorem confN (W : World) : Calls Try.prog 7 #[.int .u8 3, .int .u8 1, .int .u8 2] W fun e w' => e = .returned (.agg #[.int .i64 5, .int .i64 2, .int .i64 2]) ∧ Below W.heap.size W w' := Conf_f W 3 1 2 (by decide) (by decide) (by decide)
set_option maxRecDepth 100000 in
set_option maxHeartbeats 4000000 in
theorem SwimNone_calls (w : World) (now d : Int) (hnow : -9223372036854775808 ≤ now ∧ now ≤ 9223372036854775807) : Calls Try.prog 4 #[.int .i64 now, .int .u64 d] w fun e w' => e = .returned (.bool true) ∧ Below w.heap.size w w' := by
  go_enter Try.func4, Try.ntmps4
  go_wp2_with fail
  with_reducible refine (Tick_nil _ _ _ _).mono ?_
  rintro e w1 ⟨rfl, hw⟩
  subst hw
  have HB1 := Lib.hid ((Below.refl w.heap.size w).alloc (Nat.le_refl _) (.cells #[.string ⟨#[97]⟩] 9))
  generalize w.alloc (.cells #[.string ⟨#[97]⟩] 9) = w1 at *
  go_wp2_with fail
  with_reducible refine (Open_nil _).mono ?_
  rintro e w2 ⟨rfl, rfl⟩
  go_wp2_with fail
  with_reducible refine (confN _).mono ?_
  rintro e w2 ⟨rfl, hb⟩
  have HB2 := Lib.hid (HB1.out.trans (hb.mono HB1.out.size))
  clear hb HB1
  have HN := Lib.hid (New_f w2 5 2 2 (by decide) (by decide) (by decide) (by decide) (by decide))
  go_wp2_with fail
  with_reducible refine HN.out.mono ?_
  rintro e w3 ⟨rfl, hs0, hb0⟩
  have HS0 := Lib.hid (show SwAt w3 (w2.heap.size + 1) sN0 from hs0)
  have HB0 := Lib.hid (HB2.out.trans (hb0.mono HB2.out.size))
  have HL := Lib.hid (show w.heap.size ≤ w2.heap.size from HB2.out.size)
  clear hs0 hb0 HN HB2
  obtain ⟨b, hb⟩ : ∃ b, b = w2.heap.size + 1 := ⟨_, rfl⟩
  rw [← hb] at HS0 ⊢
  have HBb := Lib.hid hb
  clear hb
  go_wp2_with fail
  with_reducible refine (Tick_none w3 b sN0 now d HS0.out rfl hnow (by decide)).mono ?_
  rintro e w4 ⟨rfl, s1, k1⟩
  have HS1 := Lib.hid s1
  have HB4 := Lib.hid (HB0.out.trans (k1.below (K := w.heap.size) (fun i hi => by subst hi; have := HBb.out; have := HL.out; omega) HB0.out.size))
  clear s1 k1 HS0 HB0
  go_wp2_with (first | (go_at_call 11; with_reducible refine (Got_nil _ _).mono ?_; rintro e w' ⟨rfl, rfl⟩) | (go_at_call 11; with_reducible refine (gotN w4 b _ HS1.out rfl _ (by first | exact .inl rfl | exact .inr rfl)).mono ?_; rintro e w' ⟨rfl, rfl⟩))
  with_reducible refine (Works_f _).mono ?_
  rintro e w5 ⟨rfl, hb5⟩
  have HB5 := Lib.hid (HB4.out.trans (hb5.mono HB4.out.size))
  clear hb5
  go_wp2
  go_ret
  exact ⟨rfl, HB5.out⟩
end Go.Proofs.Ytekjmkjghlbkbaa.Sw
