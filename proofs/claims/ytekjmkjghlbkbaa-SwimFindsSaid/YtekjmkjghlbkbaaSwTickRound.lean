/-
  Swim (layer 22): the walk of Tick, a question of which others are asked. Conditions: lengths of no more than 2^40, times from 0 to 2^61, a number that does not wrap.
-/
import Derived.Test.YtekjmkjghlbkbaaSwTickM
open Go Go.RowKit Go.Sort
namespace Go.Proofs.Ytekjmkjghlbkbaa.Sw
open Base
attribute [local go_sem ↓] Go.wp_at_zero Go.wp_at_succ

set_option maxRecDepth 100000 in
set_option maxHeartbeats 4000000 in
theorem Tick_round (w : World) (b : Nat) (s : SwD) (p : Option Addr) (cap : Nat) (ms : List Key) (now : Int) (draw : Nat) (h : SwAt w b s) (hp : StrsArg w p ms) (hn : 0 < ms.length) (hb : ms.length ≤ 1099511627776) (hk : (tidyL ms).Pairwise (· < ·))
    (hd : draw < 2 ^ 64) (hq : s.seq + 1 < 2 ^ 64) (hnow : 0 ≤ now ∧ now ≤ 2305843009213693952) (hsn : 0 ≤ s.now ∧ s.now ≤ 2305843009213693952) (hsi : 0 ≤ s.since ∧ s.since ≤ 2305843009213693952) (ho : s.open_ = true) (him : s.target ∈ tidyL ms) (hp1 : max s.now now - s.since < s.period) (hp2 : s.wait ≤ max s.now now - s.since) (hna : s.asked = false) :
    Calls Try.prog 10 #[.pointer (some ⟨b, 0, none⟩), .int .i64 now, .slice p ms.length cap, .int .u64 (draw : Int)] w (TickPost w b (askd (nowS s now)) (roundL (askd (nowS s now)) (tidyL ms) draw) []) := by
  have HT := Lib.hid (There_yes w b s h)
  have HS := Lib.hid h
  have HP := Lib.hid hp
  have HB := Lib.hid hb
  have HK := Lib.hid hk
  have HSQ := Lib.hid (show (shut (nowS s now)).seq + 1 < 2 ^ 64 from hq)
  have HLT := Lib.hid h.lt
  obtain ⟨c0, c1, c2, c4, c5, c6, c7, c8, c9, f4, f5, f9⟩ := h.cs
  have hlt := h.lt
  obtain ⟨M, hM⟩ : ∃ M : Int, M = max s.now now := ⟨_, rfl⟩
  have hMb : 0 ≤ M ∧ M ≤ 2305843009213693952 := by omega
  have hMx : max s.now now = M := hM.symm
  have HM := Lib.hid hM
  have HM0 := Lib.hid hMx
  clear h hp hb hk hM hq
  go_enter Try.func10, Try.ntmps10
  go_wp2_with fail
  with_reducible refine HT.out.mono ?_
  rintro e w1 ⟨rfl, rfl⟩
  clear HT
  go_wp2_with fail
  have hs1 := nowS_at HS.out now HM.out
  have HT2 := Lib.hid (Tidy_f _ p cap ms (HP.out.set c4 (by simp) (.int .i64 M)) hn (by have := HB.out; omega))
  clear HP HS c0 c1 c2 c4 c5 c6 c7 c8 c9 f4 f5 f9
  with_reducible refine HT2.out.mono ?_
  rintro e w2 ⟨q, c, rfl, hsa, hbe⟩
  have HS2 := Lib.hid (hs1.1.next hbe)
  have HK2 := Lib.hid (kthen hs1.2 (Kept.of_below hbe))
  have HQ := Lib.hid hsa
  have HZ := Lib.hid (tidy_len ms)
  obtain ⟨c0, c1, c2, c4, c5, c6, c7, c8, c9, f4, f5, f9⟩ := (hs1.1.next hbe).cs
  have hlt2 : b < w2.heap.size := (hs1.1.next hbe).lt
  clear hs1 HT2 hsa hbe hMx hlt HM
  generalize tidyL ms = ks at *
  simp only [nowS] at c0 c1 c2 c4 c5 c6 c7 c8 c9
  have hx : max s.now now = M := HM0.out
  rw [hx] at c4
  rw [hx] at hp1
  rw [hx] at hp2
  rw [ho] at c5
  have i2 : 0 < ks.length := List.length_pos_of_mem him
  have HIN := Lib.hid (show decide (s.target ∈ ks) = true by simpa using him)
  clear him
  go_wp2_with fail
  with_reducible refine (Bin_f w2 q c ks s.target HQ.out HK.out (by have := HB.out; have := HZ.out; omega)).mono ?_
  rintro e w3 ⟨nb, rfl, rfl⟩
  rw [HIN.out]
  go_wp2_with fail
  go_quiet (fail)
  have HS3 := Lib.hid (show SwAt (w2.drewN nq) b (nowS s now) from HS2.out.drewN _)
  have HK3 := Lib.hid (show Kept (fun x => x = b) w (w2.drewN nq) from kdrew HK2.out _)
  have HQ3 := Lib.hid (show StrsArg (w2.drewN nq) q ks from HQ.out.drewN _)
  clear c0 c1 c2 c4 c5 c6 c7 c8 c9 f4 f5 f9 hlt2
  generalize (w2.drewN nq) = w3 at *
  obtain ⟨c0, c1, c2, c4, c5, c6, c7, c8, c9, f4, f5, f9⟩ := HS3.out.cs
  have hlt2 : b < w3.heap.size := HS3.out.lt
  simp only [nowS] at c0 c1 c2 c4 c5 c6 c7 c8 c9
  rw [hx] at c4
  rw [ho] at c5
  rw [hna] at c9
  go_wp2_with fail
  have hs4 := askd_at HS3.out
  have hk4 := kset (i := 9) (v := .bool true) HK3.out
  have HQ4 := Lib.hid (HQ3.out.set c9 (by simp) (.bool true))
  have HS4 := Lib.hid hs4
  have HK4 := Lib.hid hk4
  clear hs4 hk4
  with_reducible refine (Round_f _ b (askd (nowS s now)) q c ks draw HS4.out HQ4.out (by have := HB.out; have := HZ.out; omega) hd).mono ?_
  rintro e w4 ⟨vr, rfl, hor, hbr⟩
  have HOR := Lib.hid (own_lower hor HK4.out.size)
  have HS5 := Lib.hid (HS4.out.next hbr)
  have HK5 := Lib.hid (kbelow HK4.out hbr)
  clear hor hbr HQ4 c0 c1 c2 c4 c5 c6 c7 c8 c9 f4 f5 f9 hlt2
  obtain ⟨c0, c1, c2, c4, c5, c6, c7, c8, c9, f4, f5, f9⟩ := HS5.out.cs
  have hlt2 : b < w4.heap.size := HS5.out.lt
  simp only [nowS, askd] at c0 c1 c2 c4 c5 c6 c7 c8 c9
  rw [hx] at c4
  rw [ho] at c5
  go_wp2_with fail
  go_quiet (fail)
  go_wp2
  go_ret2
  exact ⟨_, _, rfl, own_drewN HOR.out _, no_asks _ _ _ _, HS5.out.drewN _, kdrew HK5.out _⟩
end Go.Proofs.Ytekjmkjghlbkbaa.Sw
