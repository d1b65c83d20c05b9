/-
  Swim (layer 22): the walk of Tick, a question about one who is no member any more, another one begun. Conditions: lengths of no more than 2^40, times from 0 to 2^61, a number that does not wrap.
-/
import Derived.Test.YtekjmkjghlbkbaaSwTickM
open Go Go.RowKit Go.Sort
namespace Go.Proofs.Ytekjmkjghlbkbaa.Sw
open Base
attribute [local go_sem ↓] Go.wp_at_zero Go.wp_at_succ

set_option maxRecDepth 100000 in
set_option maxHeartbeats 4000000 in
theorem Tick_gonebegin (w : World) (b : Nat) (s : SwD) (p : Option Addr) (cap : Nat) (ms : List Key) (now : Int) (draw : Nat) (h : SwAt w b s) (hp : StrsArg w p ms) (hn : 0 < ms.length) (hb : ms.length ≤ 1099511627776) (hk : (tidyL ms).Pairwise (· < ·))
    (hq : s.seq + 1 < 2 ^ 64) (hnow : 0 ≤ now ∧ now ≤ 2305843009213693952) (hsn : 0 ≤ s.now ∧ s.now ≤ 2305843009213693952) (hsi : 0 ≤ s.since ∧ s.since ≤ 2305843009213693952) (ho : s.open_ = true) (him : s.target ∉ tidyL ms) (i2 : 0 < (tidyL ms).length) (hi : s.seq = 0 ∨ s.period ≤ max s.now now - s.since) :
    Calls Try.prog 10 #[.pointer (some ⟨b, 0, none⟩), .int .i64 now, .slice p ms.length cap, .int .u64 (draw : Int)] w (TickPost w b (begun (shut (nowS s now)) (nextK s (tidyL ms))) [⟨nextK s (tidyL ms), [], s.seq + 1⟩] []) := by
  have HT := Lib.hid (There_yes w b s h)
  have HS := Lib.hid h
  have HP := Lib.hid hp
  have HB := Lib.hid hb
  have HK := Lib.hid hk
  have HSQ := Lib.hid (show (shut (nowS s now)).seq + 1 < 2 ^ 64 from hq)
  have HLT := Lib.hid h.lt
  obtain ⟨c0, c1, c2, c4, c5, c6, c7, c8, c9, f4, f5, f9⟩ := h.cs
  have hlt := h.lt
  obtain ⟨M, hM⟩ : ∃ M : Int, M = max s.now now := ⟨_, rfl⟩
  have hMb : 0 ≤ M ∧ M ≤ 2305843009213693952 := by omega
  have hMx : max s.now now = M := hM.symm
  have HM := Lib.hid hM
  have HM0 := Lib.hid hMx
  clear h hp hb hk hM hq
  go_enter Try.func10, Try.ntmps10
  go_wp2_with fail
  with_reducible refine HT.out.mono ?_
  rintro e w1 ⟨rfl, rfl⟩
  clear HT
  go_wp2_with fail
  have hs1 := nowS_at HS.out now HM.out
  have HT2 := Lib.hid (Tidy_f _ p cap ms (HP.out.set c4 (by simp) (.int .i64 M)) hn (by have := HB.out; omega))
  clear HP HS c0 c1 c2 c4 c5 c6 c7 c8 c9 f4 f5 f9
  with_reducible refine HT2.out.mono ?_
  rintro e w2 ⟨q, c, rfl, hsa, hbe⟩
  have HS2 := Lib.hid (hs1.1.next hbe)
  have HK2 := Lib.hid (kthen hs1.2 (Kept.of_below hbe))
  have HQ := Lib.hid hsa
  have HZ := Lib.hid (tidy_len ms)
  obtain ⟨c0, c1, c2, c4, c5, c6, c7, c8, c9, f4, f5, f9⟩ := (hs1.1.next hbe).cs
  have hlt2 : b < w2.heap.size := (hs1.1.next hbe).lt
  clear hs1 HT2 hsa hbe hMx hlt HM
  generalize tidyL ms = ks at *
  simp only [nowS] at c0 c1 c2 c4 c5 c6 c7 c8 c9
  have hx : max s.now now = M := HM0.out
  rw [hx] at c4
  rw [hx] at hi
  rw [ho] at c5
  have HX := Lib.hid hi
  have HIN := Lib.hid (show decide (s.target ∈ ks) = false by simpa using him)
  clear him
  go_wp2_with fail
  with_reducible refine (Bin_f w2 q c ks s.target HQ.out HK.out (by have := HB.out; have := HZ.out; omega)).mono ?_
  rintro e w3 ⟨nb, rfl, rfl⟩
  rw [HIN.out]
  go_wp2_with fail
  have HS3 := Lib.hid (show SwAt (w2.setCell ⟨b, 5, none⟩ (.bool false)) b ((shut (nowS s now))) from shut_at HS2.out)
  have HK3 := Lib.hid (show Kept (fun x => x = b) w (w2.setCell ⟨b, 5, none⟩ (.bool false)) from kset HK2.out)
  have HQ3 := Lib.hid (show StrsArg (w2.setCell ⟨b, 5, none⟩ (.bool false)) q ks from HQ.out.set c5 (by simp) _)
  clear c0 c1 c2 c4 c5 c6 c7 c8 c9 f4 f5 f9 hlt2
  generalize (w2.setCell ⟨b, 5, none⟩ (.bool false)) = w3 at *
  obtain ⟨c0, c1, c2, c4, c5, c6, c7, c8, c9, f4, f5, f9⟩ := HS3.out.cs
  have hlt2 : b < w3.heap.size := HS3.out.lt
  simp only [nowS, shut] at c0 c1 c2 c4 c5 c6 c7 c8 c9
  rw [hx] at c4
  by_cases hs0 : s.seq = 0
  · have i1 : ((s.seq : Int) == 0) = true := by simp; omega
    go_quiet (fail)
    have HSB := Lib.hid ((HS3.out : SwAt w3 b (shut (nowS s now))).drewN nq)
    have HKB := Lib.hid (kdrew HK3.out nq)
    have HQB := Lib.hid ((HQ3.out : StrsArg w3 q ks).drewN nq)
    generalize (w3).drewN nq = WB at *
    go_wp2_with fail
    with_reducible refine (Begin_f WB b (shut (nowS s now)) q c ks HSB.out HQB.out (by assumption) (by have := HB.out; have := HZ.out; omega) HSQ.out).mono ?_
    rintro e w3 ⟨he, hs3, hk3⟩
    obtain ⟨kx, hkx⟩ : ∃ kx, kx = nextK (shut (nowS s now)) ks := ⟨_, rfl⟩
    obtain ⟨qx, hqx⟩ : ∃ qx, qx = s.seq + 1 := ⟨_, rfl⟩
    have he2 : e = .returned (.agg #[.string (B kx), .string (B []), .int .u64 (qx : Int)]) := by rw [he, hkx, hqx]; rfl
    subst he2
    clear he
    have HS4 := Lib.hid hs3
    have HK3 := Lib.hid (kthen HKB.out hk3)
    have HKX := Lib.hid hkx
    have HQX := Lib.hid hqx
    obtain ⟨g, cp, w4, hr4, ho4, hb4, hs4⟩ := append_ask w3 w3.heap.size (Nat.le_refl _) (.slice none 0 0) [] (no_asks _ _ _ _) ⟨kx, [], qx⟩ (by simp)
    have HR4 := Lib.hid hr4
    have HO4 := Lib.hid ho4
    have HB4 := Lib.hid hb4
    clear hr4 ho4 hb4 hs4 hs3 hk3 hkx hqx
    go_wp2_with (at_builtin; refine wpList_append_run rfl _ _ _ rfl rfl rfl HR4.out ?_)
    go_ret2
    refine ⟨_, _, rfl, ?_, ?_, HS4.out.next HB4.out, kbelow HK3.out HB4.out⟩
    · have ho := HO4.out
      rw [HKX.out, HQX.out] at ho
      exact own_lower ho HK3.out.size
    · exact no_asks _ _ _ _
  · have i1 : ((s.seq : Int) == 0) = false := by simp; omega
    have i3 : s.period ≤ M - s.since := by omega
    go_quiet (fail)
    have HSB := Lib.hid ((HS3.out : SwAt w3 b (shut (nowS s now))).drewN nq)
    have HKB := Lib.hid (kdrew HK3.out nq)
    have HQB := Lib.hid ((HQ3.out : StrsArg w3 q ks).drewN nq)
    generalize (w3).drewN nq = WB at *
    go_wp2_with fail
    with_reducible refine (Begin_f WB b (shut (nowS s now)) q c ks HSB.out HQB.out (by assumption) (by have := HB.out; have := HZ.out; omega) HSQ.out).mono ?_
    rintro e w3 ⟨he, hs3, hk3⟩
    obtain ⟨kx, hkx⟩ : ∃ kx, kx = nextK (shut (nowS s now)) ks := ⟨_, rfl⟩
    obtain ⟨qx, hqx⟩ : ∃ qx, qx = s.seq + 1 := ⟨_, rfl⟩
    have he2 : e = .returned (.agg #[.string (B kx), .string (B []), .int .u64 (qx : Int)]) := by rw [he, hkx, hqx]; rfl
    subst he2
    clear he
    have HS4 := Lib.hid hs3
    have HK3 := Lib.hid (kthen HKB.out hk3)
    have HKX := Lib.hid hkx
    have HQX := Lib.hid hqx
    obtain ⟨g, cp, w4, hr4, ho4, hb4, hs4⟩ := append_ask w3 w3.heap.size (Nat.le_refl _) (.slice none 0 0) [] (no_asks _ _ _ _) ⟨kx, [], qx⟩ (by simp)
    have HR4 := Lib.hid hr4
    have HO4 := Lib.hid ho4
    have HB4 := Lib.hid hb4
    clear hr4 ho4 hb4 hs4 hs3 hk3 hkx hqx
    go_wp2_with (at_builtin; refine wpList_append_run rfl _ _ _ rfl rfl rfl HR4.out ?_)
    go_ret2
    refine ⟨_, _, rfl, ?_, ?_, HS4.out.next HB4.out, kbelow HK3.out HB4.out⟩
    · have ho := HO4.out
      rw [HKX.out, HQX.out] at ho
      exact own_lower ho HK3.out.size
    · exact no_asks _ _ _ _
end Go.Proofs.Ytekjmkjghlbkbaa.Sw
