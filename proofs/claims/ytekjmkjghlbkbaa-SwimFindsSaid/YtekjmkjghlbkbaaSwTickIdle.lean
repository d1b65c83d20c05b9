/-
  Swim (layer 22): the walk of Tick, no question open, none begun. Conditions: lengths of no more than 2^40, times from 0 to 2^61, a number that does not wrap.
-/
import Derived.Test.YtekjmkjghlbkbaaSwTickM
open Go Go.RowKit Go.Sort
namespace Go.Proofs.Ytekjmkjghlbkbaa.Sw
open Base
attribute [local go_sem ↓] Go.wp_at_zero Go.wp_at_succ

set_option maxRecDepth 100000 in
set_option maxHeartbeats 4000000 in
theorem Tick_idle (w : World) (b : Nat) (s : SwD) (p : Option Addr) (cap : Nat) (ms : List Key) (now : Int) (draw : Nat) (h : SwAt w b s) (hp : StrsArg w p ms) (hn : 0 < ms.length) (hb : ms.length ≤ 1099511627776) (hk : (tidyL ms).Pairwise (· < ·))
    (hq : s.seq + 1 < 2 ^ 64) (hnow : 0 ≤ now ∧ now ≤ 2305843009213693952) (hsn : 0 ≤ s.now ∧ s.now ≤ 2305843009213693952) (hsi : 0 ≤ s.since ∧ s.since ≤ 2305843009213693952) (ho : s.open_ = false) (hi : (tidyL ms).length = 0 ∨ (s.seq ≠ 0 ∧ max s.now now - s.since < s.period)) :
    Calls Try.prog 10 #[.pointer (some ⟨b, 0, none⟩), .int .i64 now, .slice p ms.length cap, .int .u64 (draw : Int)] w (TickPost w b (shut (nowS s now)) [] []) := by
  have HT := Lib.hid (There_yes w b s h)
  have HS := Lib.hid h
  have HP := Lib.hid hp
  have HB := Lib.hid hb
  have HK := Lib.hid hk
  have HSQ := Lib.hid (show (shut (nowS s now)).seq + 1 < 2 ^ 64 from hq)
  have HLT := Lib.hid h.lt
  obtain ⟨c0, c1, c2, c4, c5, c6, c7, c8, c9, f4, f5, f9⟩ := h.cs
  have hlt := h.lt
  obtain ⟨M, hM⟩ : ∃ M : Int, M = max s.now now := ⟨_, rfl⟩
  have hMb : 0 ≤ M ∧ M ≤ 2305843009213693952 := by omega
  have hMx : max s.now now = M := hM.symm
  have HM := Lib.hid hM
  have HM0 := Lib.hid hMx
  clear h hp hb hk hM hq
  go_enter Try.func10, Try.ntmps10
  go_wp2_with fail
  with_reducible refine HT.out.mono ?_
  rintro e w1 ⟨rfl, rfl⟩
  clear HT
  go_wp2_with fail
  have hs1 := nowS_at HS.out now HM.out
  have HT2 := Lib.hid (Tidy_f _ p cap ms (HP.out.set c4 (by simp) (.int .i64 M)) hn (by have := HB.out; omega))
  clear HP HS c0 c1 c2 c4 c5 c6 c7 c8 c9 f4 f5 f9
  with_reducible refine HT2.out.mono ?_
  rintro e w2 ⟨q, c, rfl, hsa, hbe⟩
  have HS2 := Lib.hid (hs1.1.next hbe)
  have HK2 := Lib.hid (kthen hs1.2 (Kept.of_below hbe))
  have HQ := Lib.hid hsa
  have HZ := Lib.hid (tidy_len ms)
  obtain ⟨c0, c1, c2, c4, c5, c6, c7, c8, c9, f4, f5, f9⟩ := (hs1.1.next hbe).cs
  have hlt2 : b < w2.heap.size := (hs1.1.next hbe).lt
  clear hs1 HT2 hsa hbe hMx hlt HM
  generalize tidyL ms = ks at *
  simp only [nowS] at c0 c1 c2 c4 c5 c6 c7 c8 c9
  have hx : max s.now now = M := HM0.out
  rw [hx] at c4
  rw [hx] at hi
  rw [ho] at c5
  have HS3 := Lib.hid (show SwAt w2 b (shut (nowS s now)) by rw [shut_shut (s := nowS s now) ho]; exact HS2.out)
  clear HS2
  have HX := Lib.hid hi
  go_wp2_with fail
  rcases hi with hi | ⟨hi1, hi2⟩
  · rw [hi]
    go_quiet (fail)
    go_wp2
    go_ret2
    exact ⟨_, _, rfl, no_asks _ _ _ _, no_asks _ _ _ _, (HS3.out : SwAt w2 b (shut (nowS s now))).drewN _, kdrew HK2.out _⟩
  · have i1 : ((s.seq : Int) == 0) = false := by simp; omega
    by_cases hk0 : ks.length = 0
    · rw [hk0]
      go_quiet (fail)
      go_wp2
      go_ret2
      exact ⟨_, _, rfl, no_asks _ _ _ _, no_asks _ _ _ _, (HS3.out : SwAt w2 b (shut (nowS s now))).drewN _, kdrew HK2.out _⟩
    · have i2 : 0 < ks.length := by omega
      go_quiet (fail)
      go_wp2
      go_ret2
      exact ⟨_, _, rfl, no_asks _ _ _ _, no_asks _ _ _ _, (HS3.out : SwAt w2 b (shut (nowS s now))).drewN _, kdrew HK2.out _⟩
end Go.Proofs.Ytekjmkjghlbkbaa.Sw
