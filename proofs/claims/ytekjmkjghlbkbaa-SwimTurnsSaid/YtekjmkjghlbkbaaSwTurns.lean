/-
  Swim (layer 22): the statement SwimTurns, walked. Condition: the numbers are of their kinds.
-/
import Derived.Test.YtekjmkjghlbkbaaSwLaw
import Derived.Test.YtekjmkjghlbkbaaSwTickIdle
import Derived.Deep.RegionHeld3
open Go Go.RowKit Go.Sort
namespace Go.Proofs.Ytekjmkjghlbkbaa.Sw
open Base
attribute [local go_sem ↓] Go.wp_at_zero Go.wp_at_succ

/-- The state ahead of the time x, k questions begun, all answered. -/
def stT (P T O n x k : Nat) : SwD := ⟨P, T, O, ((x - 1 : Nat) : Int), false, if k = 0 then [] else letter ((k - 1) % n), k, ((P * (k - 1) : Nat) : Int), false⟩
theorem stT_next (P T O n x k : Nat) (h0 : 0 < n) (h1 : n ≤ 12) : nextK (stT P T O n x k) (letters n) = letter (k % n) := by
  unfold nextK stT
  by_cases hk : k = 0
  · subst hk
    simp only [if_true, Nat.zero_mod]
    exact first_letter n h0
  · simp only [if_neg hk]
    rw [next_letter n ((k - 1) % n) h1 (Nat.mod_lt _ h0), Nat.mod_add_mod, Nat.sub_add_cancel (by omega)]
theorem stT_idle (P T O n x k : Nat) (hx : 0 < x) : shut (nowS (stT P T O n x k) x) = stT P T O n (x + 1) k := by
  have : max (((x - 1 : Nat) : Int)) (x : Int) = ((x + 1 - 1 : Nat) : Int) := by omega
  simp [shut, nowS, stT, this]
theorem stT_begin (P T O n x k : Nat) (hx : x = k * P) : { begun (shut (nowS (stT P T O n x k) x)) (letter (k % n)) with open_ := false } = stT P T O n (x + 1) (k + 1) := by
  have h1 : max (((x - 1 : Nat) : Int)) (x : Int) = ((x + 1 - 1 : Nat) : Int) := by omega
  have h2 : ((x : Nat) : Int) = ((P * k : Nat) : Int) := by rw [hx, Nat.mul_comm]
  have h3 : max (((x - 1 : Nat) : Int)) (x : Int) = (x : Int) := by omega
  simp only [shut, nowS, stT, begun, h3, Nat.add_sub_cancel, if_neg (Nat.succ_ne_zero k)]
  rw [h2]
theorem turn_iff {x k P : Nat} (h1 : x ≤ k * P) (h2 : k * P < x + P) : x % P = 0 ↔ x = k * P := by
  constructor
  · intro h
    have h3 : x = x / P * P := by have := Nat.div_add_mod x P; rw [h, Nat.add_zero, Nat.mul_comm] at this; exact this.symm
    have h4 : x / P ≤ k := by
      rcases Nat.lt_or_ge k (x / P) with h | h
      · have : k * P + P ≤ x / P * P := by rw [← Nat.succ_mul]; exact Nat.mul_le_mul_right _ h
        omega
      · exact h
    have h5 : k ≤ x / P := by
      rcases Nat.lt_or_ge (x / P) k with h | h
      · have : x / P * P + P ≤ k * P := by rw [← Nat.succ_mul]; exact Nat.mul_le_mul_right _ h
        omega
      · exact h
    rw [h3, Nat.le_antisymm h4 h5]
  · rintro rfl
    exact Nat.mul_mod_left _ _
theorem turn_idle (W : World) (b g cp : Nat) (P T O n x k : Nat) (h : SwAt W b (stT P T O n x k)) (hs : StrsArg W (some ⟨g, 0, none⟩) (letters n)) (h0 : 0 < n) (h1 : n ≤ 12) (hx : x < k * P) (h2 : k * P < x + P) (hb : k * P ≤ 4096) (hP : 0 < P) :
    Calls Try.prog 10 #[.pointer (some ⟨b, 0, none⟩), .int .i64 (x : Int), .slice (some ⟨g, 0, none⟩) n cp, .int .u64 (x : Int)] W (TickPost W b (stT P T O n (x + 1) k) [] []) := by
  have hk : k ≠ 0 := by rintro rfl; omega
  have hk2 : P * (k - 1) + P = k * P := by
    obtain ⟨j, rfl⟩ : ∃ j, k = j + 1 := ⟨k - 1, by omega⟩
    rw [Nat.add_sub_cancel, Nat.succ_mul, Nat.mul_comm P j]
  have hx0 : 0 < x := by
    rcases Nat.eq_zero_or_pos x with rfl | h
    · have : P ≤ k * P := Nat.le_mul_of_pos_left _ (by omega)
      omega
    · exact h
  have hkP : k ≤ k * P := Nat.le_mul_of_pos_right _ hP
  have t := Tick_idle W b (stT P T O n x k) (some ⟨g, 0, none⟩) cp (letters n) (x : Int) x h hs (by rw [letters_len]; exact h0) (by rw [letters_len]; omega) (by rw [letters_tidy n h1]; exact letters_rise n h1) (show k + 1 < 2 ^ 64 by omega) (by omega) (show 0 ≤ (((x - 1 : Nat) : Int)) ∧ (((x - 1 : Nat) : Int)) ≤ 2305843009213693952 by omega) (show 0 ≤ (((P * (k - 1) : Nat) : Int)) ∧ (((P * (k - 1) : Nat) : Int)) ≤ 2305843009213693952 by omega) rfl (.inr ⟨hk, show max (((x - 1 : Nat) : Int)) (x : Int) - ((P * (k - 1) : Nat) : Int) < (P : Int) by omega⟩)
  rw [stT_idle P T O n x k hx0, letters_len] at t
  exact t
theorem turn_begin (W : World) (b g cp : Nat) (P T O n x k : Nat) (h : SwAt W b (stT P T O n x k)) (hs : StrsArg W (some ⟨g, 0, none⟩) (letters n)) (h0 : 0 < n) (h1 : n ≤ 12) (hx : x = k * P) (hb : x ≤ 4096) (hP : 0 < P) :
    Calls Try.prog 10 #[.pointer (some ⟨b, 0, none⟩), .int .i64 (x : Int), .slice (some ⟨g, 0, none⟩) n cp, .int .u64 (x : Int)] W (TickPost W b (begun (shut (nowS (stT P T O n x k) x)) (letter (k % n))) [⟨letter (k % n), [], k + 1⟩] []) := by
  have hkP : k ≤ k * P := Nat.le_mul_of_pos_right _ hP
  have hk2 : k = 0 ∨ P * (k - 1) + P = k * P := by
    rcases Nat.eq_zero_or_pos k with h | h
    · exact .inl h
    · obtain ⟨j, rfl⟩ : ∃ j, k = j + 1 := ⟨k - 1, by omega⟩
      exact .inr (by rw [Nat.add_sub_cancel, Nat.succ_mul, Nat.mul_comm P j])
  have hk3 : P * (k - 1) ≤ 4096 := by
    rcases hk2 with rfl | h
    · simp
    · omega
  have t := Tick_begin W b (stT P T O n x k) (some ⟨g, 0, none⟩) cp (letters n) (x : Int) x h hs (by rw [letters_len]; exact h0) (by rw [letters_len]; omega) (by rw [letters_tidy n h1]; exact letters_rise n h1) (show k + 1 < 2 ^ 64 by omega) (by omega) (show 0 ≤ (((x - 1 : Nat) : Int)) ∧ (((x - 1 : Nat) : Int)) ≤ 2305843009213693952 by omega) (show 0 ≤ (((P * (k - 1) : Nat) : Int)) ∧ (((P * (k - 1) : Nat) : Int)) ≤ 2305843009213693952 by omega) rfl (by rw [letters_tidy n h1, letters_len]; exact h0)
    (by
      rcases hk2 with h | h
      · exact .inl h
      · exact .inr (show (P : Int) ≤ max (((x - 1 : Nat) : Int)) (x : Int) - ((P * (k - 1) : Nat) : Int) by omega))
  rw [letters_tidy n h1, stT_next P T O n x k h0 h1, letters_len] at t
  exact t
theorem turn_got (W : World) (b : Nat) (P T O n x k : Nat) (h : SwAt W b (begun (shut (nowS (stT P T O n x k) x)) (letter (k % n)))) (hx : x = k * P) :
    Calls Try.prog 11 #[.pointer (some ⟨b, 0, none⟩), .int .u64 ((k : Int) + 1)] W fun e w' => e = .returned (.bool true) ∧ SwAt w' b (stT P T O n (x + 1) (k + 1)) ∧ Kept (fun x => x = b) W w' := by
  have t := Got_yes W b _ h rfl
  rw [stT_begin P T O n x k hx] at t
  exact t
set_option maxRecDepth 100000 in
set_option maxHeartbeats 8000000 in
theorem SwimTurns_calls (w : World) (p t o m r : Nat) (hp : p < 256) (ht : t < 256) (ho : o < 256) (hm : m < 256) (hr : r < 256) : Calls Try.prog 5 #[.int .u8 (p : Int), .int .u8 (t : Int), .int .u8 (o : Int), .int .u8 (m : Int), .int .u8 (r : Int)] w fun e w' => e = .returned (.bool true) ∧ Below w.heap.size w w' := by
  have HC := Lib.hid (Conf_f w p t o hp ht ho)
  obtain ⟨P, hP⟩ : ∃ P, P = p % 12 + 2 := ⟨_, rfl⟩
  obtain ⟨T, hT⟩ : ∃ T, T = 1 + t % (p % 12 + 1) := ⟨_, rfl⟩
  obtain ⟨O, hO⟩ : ∃ O, O = o % 4 := ⟨_, rfl⟩
  rw [← hP, ← hT, ← hO] at HC
  have hP1 : 2 ≤ P ∧ P ≤ 13 := by omega
  have hT1 : 1 ≤ T ∧ T < P := by have := Nat.mod_lt t (show 0 < p % 12 + 1 by omega); omega
  have hO1 : O ≤ 3 := by omega
  obtain ⟨n, hn⟩ : ∃ n, n = m % 12 + 1 := ⟨_, rfl⟩
  have hn1 : 1 ≤ n ∧ n ≤ 12 := by omega
  have hn2 : (m : Int) % 12 + 1 = (n : Int) := by omega
  clear hP hT hO hn
  go_enter Try.func5, Try.ntmps5
  go_wp2_with fail
  with_reducible refine HC.out.mono ?_
  rintro e w1 ⟨rfl, hb1⟩
  have HB1 := Lib.hid hb1
  clear hb1 HC
  go_wp2_with fail
  have HC1 := Lib.hid (cells_made w1 #[.int .i64 (P : Int), .int .i64 (T : Int), .int .i64 (O : Int)] 25)
  have HB2 := Lib.hid (HB1.out.alloc HB1.out.size (.cells #[.int .i64 (P : Int), .int .i64 (T : Int), .int .i64 (O : Int)] 25))
  have hz1 := alloc_more w1 (.cells #[.int .i64 (P : Int), .int .i64 (T : Int), .int .i64 (O : Int)] 25)
  have HZ1 := Lib.hid hz1
  clear hz1
  have HC2 := Lib.hid (show w.heap.size ≤ w1.heap.size from HB1.out.size)
  generalize w1.alloc (.cells #[.int .i64 (P : Int), .int .i64 (T : Int), .int .i64 (O : Int)] 25) = w2 at *
  generalize w1.heap.size = c at *
  with_reducible refine (New_f w2 P T O (by omega) (by omega) (by omega) (by omega) (by omega)).mono ?_
  rintro e w3 ⟨rfl, hs0, hb0⟩
  obtain ⟨b, hb⟩ : ∃ b, b = w2.heap.size + 1 := ⟨_, rfl⟩
  rw [← hb] at hs0 ⊢
  have HS0 := Lib.hid hs0
  have HB3 := Lib.hid (HB2.out.trans (hb0.mono HB2.out.size))
  have hcb : c < w3.heap.size := by have := HZ1.out; have := hb0.size; omega
  have hbb : b < w3.heap.size := hs0.lt
  have HNE := Lib.hid (show c ≠ b by have := HZ1.out; omega)
  have HLE := Lib.hid (show w.heap.size ≤ b ∧ w.heap.size ≤ c by have := HC2.out; have := HZ1.out; omega)
  have HCP := Lib.hid (show w3.cell? ⟨c, 0, none⟩ = some (.int .i64 (P : Int)) by
    have h0 := (HC1.out 0 (by simp)).1
    exact (hb0.cell (p := ⟨c, 0, none⟩) (by have := HZ1.out; simp; omega)).trans h0)
  clear hs0 hb0 hb HB1 HB2 HC1 HZ1 HC2
  go_wp2_with fail
  go_loopw [15, 16] (fun l u wr => ∃ i : Nat, u = .int .i64 (i : Int) ∧ i ≤ n ∧ wr.ownsRow w3.heap.size 9 1 l (letters i).length ((letters i).map strC) ∧ Below w3.heap.size w3 wr) (fun _ u _ => n - (intOf u).toNat)
  case atStart => exact ⟨0, rfl, Nat.zero_le _, no_asks _ _ _ _, Below.refl _ _⟩
  case round =>
    obtain ⟨i, rfl, hi, hown, hbe⟩ := hrel
    by_cases hik : i < n
    · have m0 : (i : Int) < (n : Int) := by omega
      obtain ⟨g, cp, w5, hr5, ho5, hb5, hs5⟩ := append_str (wr.alloc (.cells #[.int .u8 (97 + (i : Int))] 5)) w3.heap.size (by have := hbe.size; simp; omega) _ _ (hown.alloc _) (letter i) (by rw [letters_len]; omega)
      have hcv := conv_letter wr i (by omega)
      have hz0 : (wr.alloc (.cells #[.int .u8 (97 + (i : Int))] 5)).heap.size = wr.heap.size + 1 := by simp
      rw [hz0] at hr5
      have HR5 := Lib.hid hr5
      have HV5 := Lib.hid (And.intro ho5 ((hbe.alloc hbe.size _).trans hb5))
      clear hown hbe hr5 ho5 hb5 hs5 hz0
      go_wp2_with (at_builtin; refine wpList_append_run rfl _ _ _ rfl rfl rfl HR5.out ?_)
      go_roundw
      case rel =>
        refine ⟨i + 1, by go_num, hik, ?_, HV5.out.2⟩
        rw [letters_succ]
        exact HV5.out.1
      case measure => simp [intOf]; omega
    · obtain rfl : i = n := by omega
      generalize wr = W2 at *
      obtain ⟨q, cL, rfl, hA⟩ := strs_form hown
      obtain ⟨gL, rfl, hg1, hg2, _⟩ := hA 0 (by rw [letters_len]; omega)
      have HSt := Lib.hid (show StrsArg W2 (some ⟨gL, 0, none⟩) (letters i) from fun j hj => by
        obtain ⟨g', he, _, _, hc⟩ := hA j hj
        injection he with he
        injection he with he
        subst he
        exact ⟨gL, 0, rfl, by rw [Nat.zero_add]; exact hc⟩)
      have HGb := Lib.hid (show gL ≠ b by omega)
      have HSW := Lib.hid (HS0.out.next hbe)
      have HCW := Lib.hid ((hbe.cell (p := ⟨c, 0, none⟩) hcb).trans HCP.out)
      have HBW := Lib.hid (HB3.out.trans (hbe.mono HB3.out.size))
      have HZW := Lib.hid (And.intro (show c < W2.heap.size by have := hbe.size; omega) (And.intro (show b < W2.heap.size by have := hbe.size; omega) hg2))
      simp only [letters_len]
      clear hA hown hbe hg1 hg2 HS0 HB3 HCP hcb hbb hn2
      obtain ⟨R, hR⟩ : ∃ R, R = r % 4 + 1 := ⟨_, rfl⟩
      have hR1 : 1 ≤ R ∧ R ≤ 4 := by omega
      have hR2 : (r : Int) % 4 + 1 = (R : Int) := by omega
      obtain ⟨Q, hQ⟩ : ∃ Q, Q = P * i := ⟨_, rfl⟩
      have hQ1 : Q ≤ 156 := by rw [hQ]; exact Nat.mul_le_mul (show P ≤ 13 by omega) (show i ≤ 12 by omega)
      have hQ2 : (P : Int) * (i : Int) = (Q : Int) := by rw [hQ]; push_cast; rfl
      obtain ⟨N, hN⟩ : ∃ N, N = Q * R := ⟨_, rfl⟩
      have hN1 : N ≤ 624 := by rw [hN]; exact Nat.mul_le_mul hQ1 hR1.2
      have hN2 : (Q : Int) * (R : Int) = (N : Int) := by rw [hN]; push_cast; rfl
      clear hR hQ hN
      go_wp2_with fail
      go_loopw [17, 18] (fun u v wr => ∃ x k : Nat, u = .int .i64 (k : Int) ∧ v = .int .i64 (x : Int) ∧ x ≤ k * P ∧ k * P < x + P ∧ x ≤ N ∧ SwAt wr b (stT P T O i x k) ∧ StrsArg wr (some ⟨gL, 0, none⟩) (letters i) ∧ wr.cell? ⟨c, 0, none⟩ = some (.int .i64 (P : Int)) ∧ Below w.heap.size w wr ∧ W2.heap.size ≤ wr.heap.size) (fun _ v _ => N - (intOf v).toNat)
      case atStart => exact ⟨0, 0, rfl, rfl, by omega, by omega, by omega, HSW.out, HSt.out, HCW.out, HBW.out, Nat.le_refl _⟩
      case round =>
        obtain ⟨x, k, rfl, rfl, hx1, hx2, hxN, hsw, hst, hcw, hbw, hzw⟩ := hrel
        obtain ⟨Y, hY⟩ : ∃ Y, Y = k * P := ⟨_, rfl⟩
        have hk1 : k ≤ Y := by rw [hY]; exact Nat.le_mul_of_pos_right _ (by omega)
        rw [← hY] at hx1 hx2
        have HY := Lib.hid hY
        clear hY
        have HX := Lib.hid (And.intro hsw (And.intro hst (And.intro hbw hzw)))
        have hcw2 : c < wr.heap.size := Nat.lt_of_lt_of_le HZW.out.1 hzw
        obtain ⟨g, cp, w5, hr5, ha5, hb5, hg5⟩ := append_all wr _ cL (letters i) hst (by rw [letters_len]; omega) (by rw [letters_len]; omega)
        rw [letters_len] at hr5
        have HR5 := Lib.hid hr5
        have HV5 := Lib.hid (And.intro ha5 hb5)
        have HS5 := Lib.hid (hsw.next hb5)
        clear hsw hst hbw hzw hr5 ha5 hb5 hg5
        by_cases hxn : x < N
        · have m0 : (x : Int) < (N : Int) := by omega
          go_wp2_with (at_builtin; refine wpList_append_run rfl _ _ _ rfl rfl rfl HR5.out ?_)
          obtain ⟨z, hz⟩ : ∃ z, z = x % P := ⟨_, rfl⟩
          have hz2 : (x : Int) % (P : Int) = (z : Int) := by rw [hz]; push_cast; rfl
          have HIF := Lib.hid (show z = 0 ↔ x = Y by rw [hz, HY.out]; exact turn_iff (by rw [← HY.out]; exact hx1) (by rw [← HY.out]; exact hx2))
          clear hz
          by_cases hxy : x = Y
          · have hz0 : z = 0 := HIF.out.2 hxy
            subst hz0
            subst hxy
            have hz4 : (x : Int) % (P : Int) = 0 := hz2
            clear hz2
            with_reducible refine (turn_begin w5 b g cp P T O i x k HS5.out HV5.out.1 (by omega) (by omega) HY.out (by omega) (by omega)).mono ?_
            rintro e w6 ⟨v1, v2, rfl, r1, r2, s6, k6⟩
            obtain ⟨g1, cp1, rfl, hg1, hr1⟩ := one_ask r1
            obtain ⟨q1, cq1, rfl⟩ := no_strs r2
            have hcw6 : w6.cell? ⟨c, 0, none⟩ = some (.int .i64 (P : Int)) := (cell_kept k6 (Nat.lt_of_lt_of_le hcw2 HV5.out.2.size) HNE.out).trans ((HV5.out.2.cell (p := ⟨c, 0, none⟩) hcw2).trans hcw)
            obtain ⟨j, hj⟩ : ∃ j, j = k % i := ⟨_, rfl⟩
            have hj1 : j < i := by rw [hj]; exact Nat.mod_lt _ (by omega)
            have HJ2 := Lib.hid (show (k : Int) % (i : Int) = (j : Int) by rw [hj]; push_cast; rfl)
            rw [← hj] at hr1
            have a0 : w6.cell? ⟨g1, 0, none⟩ = some (.string (B (letter j))) := hr1.2.1
            have a1 : w6.cell? ⟨g1, 1, none⟩ = some (.string ⟨#[]⟩) := hr1.2.2.1
            have a2 : w6.cell? ⟨g1, 2, none⟩ = some (.int .u64 ((k : Int) + 1)) := hr1.2.2.2
            have HST6 := Lib.hid (((HX.out.2.1.below HV5.out.2).kept k6 HGb.out))
            have a3 : w6.cell? ⟨gL, j, none⟩ = some (.string (B (letter j))) := by
              obtain ⟨b0, o0, he, hc⟩ := HST6.out j (by rw [letters_len]; exact hj1)
              injection he with he
              injection he with h1 h2
              subst h1 h2
              rw [Nat.zero_add, letters_get] at hc
              exact hc
            have hgLz : gL < w6.heap.size := lt_of_cell a3
            have hg1z : g1 < w6.heap.size := lt_of_cell a0
            have hN1b : g1 ≠ b := by have := HS5.out.lt; omega
            have HG := Lib.hid (turn_got w6.drew b P T O i x k s6 HY.out)
            have HK6 := Lib.hid k6
            have m1 : (j : Int) < (i : Int) := by omega
            have m2 : 0 ≤ (j : Int) := by omega
            have m3 : ((i : Int) == 0) = false := by simp; omega
            have m4 : i ≠ 0 := by omega
            have m5 : (i : Int) ≠ 0 := by omega
            have m6 : (k : Int) ≤ 4096 := by omega
            have m7 : 0 ≤ (k : Int) := by omega
            have m8 := HJ2.out
            have m9 : (k : Int).tmod (i : Int) = (j : Int) := by rw [Int.tmod_eq_emod_of_nonneg (by omega)]; exact m8
            have m10 : IntKind.i64.wrap (j : Int) = (j : Int) := by rw [IntKind.wrap_i64]; omega
            have m11 : IntKind.u64.wrap (k : Int) = (k : Int) := by rw [wrap_u64']; omega
            have m12 : IntKind.u64.wrap ((k : Int) + 1) = (k : Int) + 1 := by rw [wrap_u64']; omega
            have HH := Lib.hid (And.intro hg1z (And.intro hgLz hN1b))
            clear r1 r2 s6 k6 hcw hg1 hr1 hj
            go_wp2_with fail
            go_region_held3 (fun w' => w'.cell? ⟨g1, 0, none⟩ = some (.string (B (letter j))) ∧ w'.cell? ⟨g1, 1, none⟩ = some (.string ⟨#[]⟩) ∧ w'.cell? ⟨g1, 2, none⟩ = some (.int .u64 ((k : Int) + 1)) ∧ w'.cell? ⟨gL, j, none⟩ = some (.string (B (letter j)))) (first | go_keep | exact ⟨(cell_kept k7 HH.out.1 HH.out.2.2).trans a0, (cell_kept k7 HH.out.1 HH.out.2.2).trans a1, (cell_kept k7 HH.out.1 HH.out.2.2).trans a2, (cell_kept k7 HH.out.2.1 HGb.out).trans a3⟩)
              ((go_at_call 11; with_reducible refine HG.out.mono ?_; rintro e w7 ⟨rfl, s7, k7⟩))
            have HS7 := Lib.hid s7
            have HK7 := Lib.hid (kthen HK6.out (⟨k7.os, k7.tape, k7.output, k7.size, k7.block⟩ : Kept (fun x => x = b) w6 w7))
            have hcw7 : w7.cell? ⟨c, 0, none⟩ = some (.int .i64 (P : Int)) := (cell_kept k7 (lt_of_cell hcw6) HNE.out).trans hcw6
            clear s7 k7 HG a0 a1 a2 a3 HST6 HK6
            go_wp2_with fail
            go_roundw
            case rel =>
              refine ⟨x + 1, k + 1, by go_num, by go_num, ?_, ?_, by omega, HS7.out, (HX.out.2.1.below HV5.out.2).kept HK7.out HGb.out, hcw7, ?_, ?_⟩
              · rw [Nat.succ_mul, ← HY.out]; omega
              · rw [Nat.succ_mul, ← HY.out]; omega
              · exact (HX.out.2.2.1.trans (HV5.out.2.mono HX.out.2.2.1.size)).trans (HK7.out.below (fun j hj => by subst hj; exact HLE.out.1) (Nat.le_trans HX.out.2.2.1.size HV5.out.2.size))
              · exact Nat.le_trans HX.out.2.2.2 (Nat.le_trans HV5.out.2.size HK7.out.size)
            case measure => simp [intOf]; omega
          · have hz0 : 0 < z := by
              rcases Nat.eq_zero_or_pos z with h | h
              · exact absurd (HIF.out.1 h) hxy
              · exact h
            have hz3 : ((z : Int) == 0) = false := by simp; omega
            with_reducible refine (turn_idle w5 b g cp P T O i x k HS5.out HV5.out.1 (by omega) (by omega) (by rw [← HY.out]; omega) (by rw [← HY.out]; exact hx2) (by rw [← HY.out]; omega) (by omega)).mono ?_
            rintro e w6 ⟨v1, v2, rfl, r1, r2, s6, k6⟩
            obtain ⟨q0, cq0, rfl⟩ := no_asksv r1
            obtain ⟨q1, cq1, rfl⟩ := no_strs r2
            have hcw6 : w6.cell? ⟨c, 0, none⟩ = some (.int .i64 (P : Int)) := (cell_kept k6 (Nat.lt_of_lt_of_le hcw2 HV5.out.2.size) HNE.out).trans ((HV5.out.2.cell (p := ⟨c, 0, none⟩) hcw2).trans hcw)
            have HS6 := Lib.hid s6
            have HK6 := Lib.hid k6
            clear r1 r2 s6 k6 hcw
            go_wp2_with fail
            go_roundw
            case rel =>
              refine ⟨x + 1, k, rfl, by go_num, by rw [← HY.out]; omega, by rw [← HY.out]; omega, by omega, HS6.out, (HX.out.2.1.below HV5.out.2).kept HK6.out HGb.out, hcw6, ?_, ?_⟩
              · exact (HX.out.2.2.1.trans (HV5.out.2.mono HX.out.2.2.1.size)).trans (HK6.out.below (fun j hj => by subst hj; exact HLE.out.1) (Nat.le_trans HX.out.2.2.1.size HV5.out.2.size))
              · exact Nat.le_trans HX.out.2.2.2 (Nat.le_trans HV5.out.2.size HK6.out.size)
            case measure => simp [intOf]; omega
        · have hxe : x = N := by omega
          subst hxe
          go_wp2_with fail
          with_reducible refine (Works_f _).mono ?_
          rintro e w7 ⟨rfl, hb7⟩
          have HB7 := Lib.hid (HX.out.2.2.1.trans (hb7.mono HX.out.2.2.1.size))
          clear hb7
          go_wp2
          go_ret
          exact ⟨rfl, HB7.out⟩
end Go.Proofs.Ytekjmkjghlbkbaa.Sw
