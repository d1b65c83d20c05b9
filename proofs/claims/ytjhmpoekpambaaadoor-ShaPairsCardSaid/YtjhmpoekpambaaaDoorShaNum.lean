/-
  The document's numbers of layer 4: mul, square, cube, fraction, walked; what they come to on words.
-/
import Derived.Test.YtjhmpoekpambaaaDoorShaWords
import Derived.Laws.BitsAllLaws
import Derived.BigGuardPart
open Go Go.RowKit
namespace Go.Proofs.YtjhmpoekpambaaaDoor.Sha
open Base

/-- A word of 64 bits as the walk's number. -/
def V (x : UInt64) : Int := (x.toNat : Int)
theorem V_pos (a : UInt64) : 0 ≤ V a := by unfold V; omega
theorem V_lt (a : UInt64) : V a < 18446744073709551616 := by
  have := a.toNat_lt
  unfold V; omega
theorem v_lt (a : UInt64) : a.toNat < 18446744073709551616 := a.toNat_lt
@[go_sem] theorem add_v (a b : UInt64) : (V a + V b) % 18446744073709551616 = V (a + b) := by
  unfold V
  rw [UInt64.toNat_add]; omega
@[go_sem] theorem mul_v (a b : UInt64) : (V a * V b) % 18446744073709551616 = V (a * b) := by
  unfold V
  rw [UInt64.toNat_mul, ← Int.natCast_mul]
  omega
def A0 : UInt64 := 4294967295
@[go_sem] theorem and_v (a b : UInt64) : bits .and .u64 (V a) (V b) = V (a &&& b) := by
  unfold V
  rw [u64_and_nat _ _ (v_lt a) (v_lt b), UInt64.toNat_and]
@[go_sem] theorem or_v (a b : UInt64) : bits .or .u64 (V a) (V b) = V (a ||| b) := by
  unfold V
  rw [u64_or_nat _ _ (v_lt a) (v_lt b), UInt64.toNat_or]
@[go_sem] theorem and_low (a : UInt64) : bits .and .u64 (V a) 4294967295 = V (a &&& 4294967295) := by
  rw [show (4294967295 : Int) = V 4294967295 from rfl, and_v]
@[go_sem] theorem shr_v (a : UInt64) : V a / (4294967296 : Int) = V (a >>> 32) := by
  unfold V
  rw [UInt64.toNat_shiftRight]
  simp [Nat.shiftRight_eq_div_pow]
  try omega
@[go_sem] theorem shl_v (a : UInt64) : V a * (4294967296 : Int) % (18446744073709551616 : Int) = V (a <<< 32) := by
  unfold V
  rw [UInt64.toNat_shiftLeft]
  simp [Nat.shiftLeft_eq]
  try omega
theorem wrap_u64 (n : Int) : IntKind.u64.wrap n = n % 18446744073709551616 := by
  unfold IntKind.wrap
  simp [IntKind.signed, IntKind.bits]
@[go_sem] theorem wadd_v (a b : UInt64) : IntKind.u64.wrap (V a + V b) = V (a + b) := by rw [wrap_u64, add_v]
@[go_sem] theorem wmul_v (a b : UInt64) : IntKind.u64.wrap (V a * V b) = V (a * b) := by rw [wrap_u64, mul_v]
@[go_sem] theorem wshl_v (a : UInt64) : IntKind.u64.wrap (V a * (4294967296 : Int)) = V (a <<< 32) := by rw [wrap_u64, shl_v]
def mulF (a b : UInt64) : UInt64 × UInt64 :=
  let a0 := a &&& 4294967295
  let a1 := a >>> 32
  let b0 := b &&& 4294967295
  let b1 := b >>> 32
  let low := a0 * b0
  let mid := a1 * b0 + (low >>> 32)
  let more := a0 * b1 + (mid &&& 4294967295)
  (a1 * b1 + (mid >>> 32) + (more >>> 32), (more <<< 32) ||| (low &&& 4294967295))
theorem mul_calls (a b : UInt64) (w : World) :
    Calls Tryd.prog 40 #[.int .u64 (V a), .int .u64 (V b)] w fun e w' => e = .returned (.tuple #[.int .u64 (V (mulF a b).1), .int .u64 (V (mulF a b).2)]) ∧ w = w' := by
  have ha := V_pos a
  have ha2 := V_lt a
  have hb := V_pos b
  have hb2 := V_lt b
  go_enter Tryd.func40, Tryd.ntmps40
  go_wp2
  go_ret2
  exact ⟨rfl, rfl⟩
theorem V_inj {a b : UInt64} : V a = V b ↔ a = b := ⟨fun h => by unfold V at h; exact UInt64.toNat_inj.1 (by omega), fun h => by rw [h]⟩
/-- up < p, or they are one and the rest is nothing. -/
def atMost (u p r : UInt64) : Bool := decide (V u < V p) || (V u == V p && V r == 0)
def squareF (x p : UInt64) : Bool := atMost (mulF x x).1 p (mulF x x).2
def cubeF (x p : UInt64) : Bool :=
  let m := mulF x x
  let n := mulF m.2 x
  atMost (m.1 * x + n.1) (p <<< 32) n.2
theorem square_calls (x p : UInt64) (w : World) :
    Calls Tryd.prog 33 #[.int .u64 (V x), .int .u64 (V p)] w fun e w' => e = .returned (.bool (squareF x p)) ∧ w = w' := by
  have HM := Lib.hid (mul_calls x x w)
  have HE := Lib.hid (show squareF x p = atMost (mulF x x).1 p (mulF x x).2 from rfl)
  generalize (mulF x x).1 = u at *
  generalize (mulF x x).2 = r at *
  rw [HE.out]
  unfold atMost
  by_cases h1 : V u < V p
  · rw [decide_eq_true h1, Bool.true_or]
    go_enter Tryd.func33, Tryd.ntmps33
    go_wp2_with fail
    refine HM.out.mono ?_
    rintro e w' ⟨rfl, rfl⟩
    go_wp2
    go_ret
    exact ⟨rfl, rfl⟩
  · have h2 : decide (V u < V p) = false := by simpa using h1
    rw [h2, Bool.false_or]
    by_cases h3 : (V u == V p) = true
    · rw [h3, Bool.true_and]
      by_cases h4 : (V r == 0) = true
      · rw [h4]
        go_enter Tryd.func33, Tryd.ntmps33
        go_wp2_with fail
        refine HM.out.mono ?_
        rintro e w' ⟨rfl, rfl⟩
        go_wp2
        go_ret
        exact ⟨rfl, rfl⟩
      · replace h4 : (V r == 0) = false := by simpa using h4
        rw [h4]
        go_enter Tryd.func33, Tryd.ntmps33
        go_wp2_with fail
        refine HM.out.mono ?_
        rintro e w' ⟨rfl, rfl⟩
        go_wp2
        go_ret
        exact ⟨rfl, rfl⟩
    · replace h3 : (V u == V p) = false := by simpa using h3
      rw [h3, Bool.false_and]
      go_enter Tryd.func33, Tryd.ntmps33
      go_wp2_with fail
      refine HM.out.mono ?_
      rintro e w' ⟨rfl, rfl⟩
      go_wp2
      go_ret
      exact ⟨rfl, rfl⟩
theorem cube_calls (x p : UInt64) (w : World) :
    Calls Tryd.prog 32 #[.int .u64 (V x), .int .u64 (V p)] w fun e w' => e = .returned (.bool (cubeF x p)) ∧ w = w' := by
  have HM := Lib.hid (mul_calls x x w)
  have HM2 := Lib.hid (mul_calls (mulF x x).2 x w)
  have HE := Lib.hid (show cubeF x p = atMost ((mulF x x).1 * x + (mulF (mulF x x).2 x).1) (p <<< 32) (mulF (mulF x x).2 x).2 from rfl)
  generalize (mulF (mulF x x).2 x).1 = u2 at *
  generalize (mulF (mulF x x).2 x).2 = r at *
  generalize (mulF x x).1 = u1 at *
  generalize (mulF x x).2 = r1 at *
  rw [HE.out]
  unfold atMost
  by_cases h1 : V (u1 * x + u2) < V (p <<< 32)
  · rw [decide_eq_true h1, Bool.true_or]
    go_enter Tryd.func32, Tryd.ntmps32
    go_wp2_with fail
    refine HM.out.mono ?_
    rintro e w' ⟨rfl, rfl⟩
    go_wp2_with fail
    refine HM2.out.mono ?_
    rintro e w' ⟨rfl, rfl⟩
    go_wp2
    go_ret
    exact ⟨rfl, rfl⟩
  · have h2 : decide (V (u1 * x + u2) < V (p <<< 32)) = false := by simpa using h1
    rw [h2, Bool.false_or]
    by_cases h3 : (V (u1 * x + u2) == V (p <<< 32)) = true
    · rw [h3, Bool.true_and]
      by_cases h4 : (V r == 0) = true
      · rw [h4]
        go_enter Tryd.func32, Tryd.ntmps32
        go_wp2_with fail
        refine HM.out.mono ?_
        rintro e w' ⟨rfl, rfl⟩
        go_wp2_with fail
        refine HM2.out.mono ?_
        rintro e w' ⟨rfl, rfl⟩
        go_wp2
        go_ret
        exact ⟨rfl, rfl⟩
      · replace h4 : (V r == 0) = false := by simpa using h4
        rw [h4]
        go_enter Tryd.func32, Tryd.ntmps32
        go_wp2_with fail
        refine HM.out.mono ?_
        rintro e w' ⟨rfl, rfl⟩
        go_wp2_with fail
        refine HM2.out.mono ?_
        rintro e w' ⟨rfl, rfl⟩
        go_wp2
        go_ret
        exact ⟨rfl, rfl⟩
    · replace h3 : (V (u1 * x + u2) == V (p <<< 32)) = false := by simpa using h3
      rw [h3, Bool.false_and]
      go_enter Tryd.func32, Tryd.ntmps32
      go_wp2_with fail
      refine HM.out.mono ?_
      rintro e w' ⟨rfl, rfl⟩
      go_wp2_with fail
      refine HM2.out.mono ?_
      rintro e w' ⟨rfl, rfl⟩
      go_wp2
      go_ret
      exact ⟨rfl, rfl⟩

/-- The root's bits from bit n - 1 down. -/
def bitsF (p : UInt64) (three : Bool) : Nat → UInt64 → UInt64
  | 0, x => x
  | n + 1, x => bitsF p three n (if (if three then cubeF (x ||| UInt64.ofNat (2 ^ n)) p else squareF (x ||| UInt64.ofNat (2 ^ n)) p) then x ||| UInt64.ofNat (2 ^ n) else x)
def fractionF (p : UInt64) (three : Bool) : UInt32 := (bitsF p three 36 0).toUInt32
theorem bit_v (n : Nat) (h : n ≤ 35) : V (UInt64.ofNat (2 ^ n)) = (2 : Int) ^ n := by
  unfold V
  have h2 : 2 ^ n ≤ 2 ^ 35 := Nat.pow_le_pow_right (by omega) h
  rw [UInt64.toNat_ofNat_of_lt' (by show 2 ^ n < 18446744073709551616; omega)]
  simp
theorem bits_yes (p : UInt64) (b : Bool) (n : Nat) (x : UInt64) (h : (if b then cubeF (x ||| UInt64.ofNat (2 ^ n)) p else squareF (x ||| UInt64.ofNat (2 ^ n)) p) = true) : bitsF p b n (x ||| UInt64.ofNat (2 ^ n)) = bitsF p b (n + 1) x := by
  show _ = bitsF p b n (if (if b then cubeF (x ||| UInt64.ofNat (2 ^ n)) p else squareF (x ||| UInt64.ofNat (2 ^ n)) p) = true then x ||| UInt64.ofNat (2 ^ n) else x)
  rw [if_pos h]
theorem bits_no (p : UInt64) (b : Bool) (n : Nat) (x : UInt64) (h : (if b then cubeF (x ||| UInt64.ofNat (2 ^ n)) p else squareF (x ||| UInt64.ofNat (2 ^ n)) p) = false) : bitsF p b n x = bitsF p b (n + 1) x := by
  show _ = bitsF p b n (if (if b then cubeF (x ||| UInt64.ofNat (2 ^ n)) p else squareF (x ||| UInt64.ofNat (2 ^ n)) p) = true then x ||| UInt64.ofNat (2 ^ n) else x)
  rw [if_neg (by rw [h]; decide)]
theorem bit_w (n : Nat) (h : n ≤ 35) : IntKind.u64.wrap ((2 : Int) ^ n) = V (UInt64.ofNat (2 ^ n)) := by
  rw [wrap_u64, ← bit_v n h]
  have h1 := V_pos (UInt64.ofNat (2 ^ n))
  have h2 := V_lt (UInt64.ofNat (2 ^ n))
  exact Int.emod_eq_of_lt h1 h2
theorem low_u (x : UInt64) : U x.toUInt32 = V x % 4294967296 := by
  unfold U V
  simp
set_option maxHeartbeats 1000000 in
theorem fraction_calls (p : UInt64) (three : Bool) (w : World) :
    Calls Tryd.prog 23 #[.int .u64 (V p), .bool three] w fun e w' => e = .returned (.int .u32 (U (fractionF p three))) ∧ w = w' := by
  have HC := Lib.hid fun y => cube_calls y p w
  have HS := Lib.hid fun y => square_calls y p w
  have HE := Lib.hid (show fractionF p three = (bitsF p three 36 0).toUInt32 from rfl)
  cases three
  · go_enter Tryd.func23, Tryd.ntmps23
    go_wp2
    go_loop [5, 6] (fun v u => ∃ (k : Nat) (x : UInt64), k ≤ 36 ∧ u = .int .i64 ((k : Int) - 1) ∧ v = .int .u64 (V x) ∧ bitsF p false k x = bitsF p false 36 0) (fun _ u => (intOf u + 1).toNat)
    case atStart => exact ⟨36, 0, by omega, rfl, rfl, rfl⟩
    case round =>
      obtain ⟨k, x, hk, rfl, rfl, hx⟩ := hrel
      by_cases hz : k = 0
      · subst hz
        have HX := Lib.hid (show U (fractionF p false) = V x % 4294967296 by rw [HE.out, ← hx]; exact low_u x)
        clear hx
        go_wp2
        go_ret
        exact ⟨by rw [HX.out]; rfl, rfl⟩
      · obtain ⟨n, rfl⟩ : ∃ n, k = n + 1 := ⟨k - 1, by omega⟩
        rw [show ((n + 1 : Nat) : Int) - 1 = (n : Int) by omega]
        clear hz
        have hn : n ≤ 35 := by omega
        clear hk
        have hw : IntKind.u64.wrap ((2 : Int) ^ n) = V (UInt64.ofNat (2 ^ n)) := bit_w n hn
        by_cases hc : squareF (x ||| UInt64.ofNat (2 ^ n)) p = true
        · have HC := Lib.hid (show Calls Tryd.prog 33 #[.int .u64 (V (x ||| UInt64.ofNat (2 ^ n))), .int .u64 (V p)] w fun e w' => e = .returned (.bool true) ∧ w = w' by have := HS.out (x ||| UInt64.ofNat (2 ^ n)); rwa [hc] at this)
          have HX := Lib.hid (show bitsF p false n (x ||| UInt64.ofNat (2 ^ n)) = bitsF p false 36 0 by rw [← hx]; exact bits_yes p _ n x hc)
          clear hx hc
          generalize UInt64.ofNat (2 ^ n) = y at *
          go_wp2_with fail
          refine HC.out.mono ?_
          rintro e w' ⟨rfl, rfl⟩
          go_wp2
          exact ⟨⟨n, _, by omega, rfl, rfl, HX.out⟩, by simp [intOf]; try omega⟩
        · replace hc : squareF (x ||| UInt64.ofNat (2 ^ n)) p = false := by simpa using hc
          have HC := Lib.hid (show Calls Tryd.prog 33 #[.int .u64 (V (x ||| UInt64.ofNat (2 ^ n))), .int .u64 (V p)] w fun e w' => e = .returned (.bool false) ∧ w = w' by have := HS.out (x ||| UInt64.ofNat (2 ^ n)); rwa [hc] at this)
          have HX := Lib.hid (show bitsF p false n x = bitsF p false 36 0 by rw [← hx]; exact bits_no p _ n x hc)
          clear hx hc
          generalize UInt64.ofNat (2 ^ n) = y at *
          go_wp2_with fail
          refine HC.out.mono ?_
          rintro e w' ⟨rfl, rfl⟩
          go_wp2
          exact ⟨⟨n, _, by omega, rfl, rfl, HX.out⟩, by simp [intOf]; try omega⟩
  · go_enter Tryd.func23, Tryd.ntmps23
    go_wp2
    go_loop [5, 6] (fun v u => ∃ (k : Nat) (x : UInt64), k ≤ 36 ∧ u = .int .i64 ((k : Int) - 1) ∧ v = .int .u64 (V x) ∧ bitsF p true k x = bitsF p true 36 0) (fun _ u => (intOf u + 1).toNat)
    case atStart => exact ⟨36, 0, by omega, rfl, rfl, rfl⟩
    case round =>
      obtain ⟨k, x, hk, rfl, rfl, hx⟩ := hrel
      by_cases hz : k = 0
      · subst hz
        have HX := Lib.hid (show U (fractionF p true) = V x % 4294967296 by rw [HE.out, ← hx]; exact low_u x)
        clear hx
        go_wp2
        go_ret
        exact ⟨by rw [HX.out]; rfl, rfl⟩
      · obtain ⟨n, rfl⟩ : ∃ n, k = n + 1 := ⟨k - 1, by omega⟩
        rw [show ((n + 1 : Nat) : Int) - 1 = (n : Int) by omega]
        clear hz
        have hn : n ≤ 35 := by omega
        clear hk
        have hw : IntKind.u64.wrap ((2 : Int) ^ n) = V (UInt64.ofNat (2 ^ n)) := bit_w n hn
        by_cases hc : cubeF (x ||| UInt64.ofNat (2 ^ n)) p = true
        · have HC := Lib.hid (show Calls Tryd.prog 32 #[.int .u64 (V (x ||| UInt64.ofNat (2 ^ n))), .int .u64 (V p)] w fun e w' => e = .returned (.bool true) ∧ w = w' by have := HC.out (x ||| UInt64.ofNat (2 ^ n)); rwa [hc] at this)
          have HX := Lib.hid (show bitsF p true n (x ||| UInt64.ofNat (2 ^ n)) = bitsF p true 36 0 by rw [← hx]; exact bits_yes p _ n x hc)
          clear hx hc
          generalize UInt64.ofNat (2 ^ n) = y at *
          go_wp2_with fail
          refine HC.out.mono ?_
          rintro e w' ⟨rfl, rfl⟩
          go_wp2
          exact ⟨⟨n, _, by omega, rfl, rfl, HX.out⟩, by simp [intOf]; try omega⟩
        · replace hc : cubeF (x ||| UInt64.ofNat (2 ^ n)) p = false := by simpa using hc
          have HC := Lib.hid (show Calls Tryd.prog 32 #[.int .u64 (V (x ||| UInt64.ofNat (2 ^ n))), .int .u64 (V p)] w fun e w' => e = .returned (.bool false) ∧ w = w' by have := HC.out (x ||| UInt64.ofNat (2 ^ n)); rwa [hc] at this)
          have HX := Lib.hid (show bitsF p true n x = bitsF p true 36 0 by rw [← hx]; exact bits_no p _ n x hc)
          clear hx hc
          generalize UInt64.ofNat (2 ^ n) = y at *
          go_wp2_with fail
          refine HC.out.mono ?_
          rintro e w' ⟨rfl, rfl⟩
          go_wp2
          exact ⟨⟨n, _, by omega, rfl, rfl, HX.out⟩, by simp [intOf]; try omega⟩
end Go.Proofs.YtjhmpoekpambaaaDoor.Sha
