/-
  Swim (layer 22): slices.BinarySearch at strings, over a rising list. No condition.
-/
import Derived.Test.YtekjmkjghlbkbaaSwTidy
open Go Go.RowKit Go.Sort
namespace Go.Proofs.Ytekjmkjghlbkbaa.Sw
open Base

theorem NaN1_f (k : Key) (w : World) : Calls Try.prog 25 #[.string (B k)] w fun e w' => e = .returned (.bool false) ∧ w = w' := by
  go_enter Try.func25, Try.ntmps25
  go_wp2
  go_ret
  exact ⟨rfl, rfl⟩
theorem NaN2_f (k : Key) (w : World) : Calls Try.prog 22 #[.string (B k)] w fun e w' => e = .returned (.bool false) ∧ w = w' := by
  go_enter Try.func22, Try.ntmps22
  go_wp2
  go_ret
  exact ⟨rfl, rfl⟩
theorem Less_f (a b : Key) (w : World) : Calls Try.prog 21 #[.string (B a), .string (B b)] w fun e w' => e = .returned (.bool (Op.bytesLess a b)) ∧ w = w' := by
  go_enter Try.func21, Try.ntmps21
  go_wp2_with (go_at_call 25; with_reducible refine (NaN1_f _ _).mono ?_; rintro e w' ⟨rfl, rfl⟩)
  go_ret
  exact ⟨rfl, rfl⟩

/-- What BinarySearch hands back: a place, and whether it is there. -/
def BinPost (w : World) (d : Bool) (e : Ending) (w' : World) : Prop := ∃ n : Nat, e = .returned (.tuple #[.int .i64 (n : Int), .bool d]) ∧ w = w'
set_option maxHeartbeats 1000000 in
theorem Bin_f (w : World) (p : Option Addr) (cap : Nat) (ks : List Key) (t : Key) (h : StrsArg w p ks) (hr : ks.Pairwise (· < ·)) (hb : ks.length ≤ 8796093022207) :
    Calls Try.prog 15 #[.slice p ks.length cap, .string (B t)] w (BinPost w (decide (t ∈ ks))) := by
  have HA := Lib.hid h
  have HR := Lib.hid hr
  clear h hr
  go_enter Try.func15, Try.ntmps15
  go_wp2_with fail
  go_loop [7, 8] (fun u v => ∃ i j : Nat, u = .int .i64 (i : Int) ∧ v = .int .i64 (j : Int) ∧ i ≤ j ∧ j ≤ ks.length ∧ (∀ a (h : a < ks.length), a < i → ks[a] < t) ∧ (∀ a (h : a < ks.length), j ≤ a → ¬ ks[a] < t)) (fun u v => (intOf v).toNat - (intOf u).toNat)
  case atStart => exact ⟨0, ks.length, rfl, rfl, Nat.zero_le _, Nat.le_refl _, fun a _ h => absurd h (by omega), fun a h1 h2 => absurd h1 (by omega)⟩
  case round =>
    obtain ⟨i, j, rfl, rfl, hij, hj, hlo, hhi⟩ := hrel
    have HLO := Lib.hid hlo
    have HHI := Lib.hid hhi
    clear hlo hhi
    by_cases hlt : i < j
    · obtain ⟨m, hm⟩ : ∃ m, m = (i + j) / 2 := ⟨_, rfl⟩
      have hh : ((i : Int) + (j : Int)) / 2 = (m : Int) := by omega
      have hmi : i ≤ m := by omega
      have hmj : m < j := by omega
      have hmk : m < ks.length := by omega
      have HIJ := Lib.hid (And.intro hmi (And.intro hmj (And.intro hmk hj)))
      obtain ⟨b0, o0, rfl, hc⟩ := HA.out m hmk
      have m0 : 0 ≤ (m : Int) := by omega
      have m1 : (m : Int) < (ks.length : Int) := by omega
      have HLESS := Lib.hid (fun x hx => bytesLess_eq x t ▸ hx : ∀ x : Key, Op.bytesLess x t = true → decide (x < t) = true)
      have HUP := Lib.hid (fun a (h : a < ks.length) (h2 : a ≤ m) => (show ks[a] ≤ ks[m] from by
        rcases Nat.lt_or_ge a m with h3 | h3
        · exact List.le_of_lt (List.pairwise_iff_getElem.1 HR.out a m h hmk h3)
        · obtain rfl : a = m := by omega
          exact List.le_refl _))
      have HDN := Lib.hid (fun a (h : a < ks.length) (h2 : m ≤ a) => (show ks[m] ≤ ks[a] from by
        rcases Nat.lt_or_ge m a with h3 | h3
        · exact List.le_of_lt (List.pairwise_iff_getElem.1 HR.out m a hmk h h3)
        · obtain rfl : a = m := by omega
          exact List.le_refl _))
      have HC := Lib.hid (Less_f ks[m] t w)
      generalize ks[m] = km at *
      clear hm hmi hmj
      cases hbl : Op.bytesLess km t
      · have HNL := Lib.hid (show ¬ km < t from fun h => by rw [bytesLess_eq] at hbl; simp [h] at hbl)
        rw [hbl] at HC
        clear hbl
        go_wp2_with fail
        with_reducible refine HC.out.mono ?_
        rintro e w2 ⟨rfl, rfl⟩
        go_wp2
        go_round
        case rel =>
          obtain ⟨q1, q2, q3, q4⟩ := HIJ.out
          exact ⟨i, m, rfl, rfl, q1, by omega, HLO.out, fun a h1 h2 h3 => HNL.out (List.lt_of_le_of_lt (HDN.out a h1 h2) h3)⟩
        case measure => obtain ⟨q1, q2, q3, q4⟩ := HIJ.out; simp [intOf]; omega
      · have HYL := Lib.hid (show km < t by rw [bytesLess_eq] at hbl; simpa using hbl)
        rw [hbl] at HC
        clear hbl
        go_wp2_with fail
        with_reducible refine HC.out.mono ?_
        rintro e w2 ⟨rfl, rfl⟩
        go_wp2
        go_round
        case rel =>
          obtain ⟨q1, q2, q3, q4⟩ := HIJ.out
          exact ⟨m + 1, j, by go_num, rfl, by omega, q4, fun a h1 h2 => List.lt_of_le_of_lt (HUP.out a h1 (by omega)) HYL.out, HHI.out⟩
        case measure => obtain ⟨q1, q2, q3, q4⟩ := HIJ.out; simp [intOf]; omega
    · obtain rfl : i = j := by omega
      by_cases hik : i < ks.length
      · obtain ⟨b0, o0, rfl, hc⟩ := HA.out i hik
        have m0 : 0 ≤ (i : Int) := by omega
        have m1 : (i : Int) < (ks.length : Int) := by omega
        have HIN := Lib.hid (show (ks[i] = t) ↔ t ∈ ks from ⟨fun h => h ▸ List.getElem_mem hik, fun h => by
          obtain ⟨a, ha, rfl⟩ := List.getElem_of_mem h
          rcases Nat.lt_or_ge a i with h1 | h1
          · exact absurd (HLO.out a ha h1) (List.lt_irrefl _)
          · rcases Nat.lt_or_ge i a with h2 | h2
            · exact absurd (List.pairwise_iff_getElem.1 HR.out i a hik ha h2) (HHI.out i hik (Nat.le_refl _))
            · congr 1; omega⟩)
        generalize ks[i] = ki at *
        by_cases hkt : ki = t
        · have t1 : (ki == t) = true := by simpa using hkt
          have HD := Lib.hid (show decide (t ∈ ks) = true from decide_eq_true (HIN.out.1 hkt))
          clear hkt
          go_wp2
          go_ret2
          rw [HD.out]
          exact ⟨i, rfl, rfl⟩
        · have t1 : (ki == t) = false := by simpa using hkt
          have HD := Lib.hid (show decide (t ∈ ks) = false from decide_eq_false fun h => hkt (HIN.out.2 h))
          clear hkt
          go_wp2_with (go_at_call 22; with_reducible refine (NaN2_f _ _).mono ?_; rintro e w' ⟨rfl, rfl⟩)
          go_ret2
          rw [HD.out]
          exact ⟨i, rfl, rfl⟩
      · have HD := Lib.hid (show decide (t ∈ ks) = false from decide_eq_false fun h => by
          obtain ⟨a, ha, rfl⟩ := List.getElem_of_mem h
          exact absurd (HLO.out a ha (by omega)) (List.lt_irrefl _))
        go_wp2
        go_ret2
        rw [HD.out]
        exact ⟨i, rfl, rfl⟩

end Go.Proofs.Ytekjmkjghlbkbaa.Sw
