/-
  The names of a store's files (layer 9) on plain data: a number in 20 decimal digits, and how it is told. No condition.
-/
import Derived.Lib.ItoaNum
import Derived.Lib.ParseIntB
import Derived.Test.YtmejdcnnpenaaaaGreatDoorZLgA
open Go Go.RowKit
namespace Go.Proofs.YtmejdcnnpenaaaaGreatDoor.St
open Base Mp Dk Frame Lg

/-- A number in 20 places. -/
def dec20 (n : Nat) : Key := List.replicate (20 - (Lib.decDigits n).length) 48 ++ Lib.decDigits n
def snaps : Key := [115, 110, 97, 112, 45]
def logs : Key := [108, 111, 103, 45]
def snapN (n : Nat) : Key := snaps ++ dec20 n
def logN (n : Nat) : Key := logs ++ dec20 n
theorem digits_len {n : Nat} (h : n < 100000000000000000000) : (Lib.decDigits n).length ≤ 20 := by
  have aux : ∀ (k u : Nat), u < 10 ^ (k + 1) → Lib.nDigits u ≤ k + 1 := by
    intro k
    induction k with
    | zero => intro u hu; rw [Lib.nDigits_small (by simpa using hu)]; exact Nat.le_refl _
    | succ k ih =>
      intro u hu
      by_cases h10 : u < 10
      · rw [Lib.nDigits_small h10]; omega
      · rw [Lib.nDigits_big h10]
        have := ih (u / 10) (by rw [Nat.pow_succ] at hu; omega)
        omega
  rw [Lib.decDigits_length]
  exact aux 19 n h
theorem dec20_len {n : Nat} (h : n < 100000000000000000000) : (dec20 n).length = 20 := by
  have := digits_len h
  unfold dec20
  rw [List.length_append, List.length_replicate]
  omega
/-- A digit more. -/
theorem parse_snoc (M : Nat) (d : Nat) (hd : d < 10) : ∀ (l : Key) (acc v : Nat), Lib.parseUintM M acc l = .ok v → v < 1844674407370955162 → v * 10 + d ≤ M → Lib.parseUintM M acc (l ++ [UInt8.ofNat (48 + d)]) = .ok (v * 10 + d)
  | [], acc, v, h, hv, hM => by
    have e : acc = v := by simpa [Lib.parseUintM] using h
    subst e
    have hc : (UInt8.ofNat (48 + d)).toNat = 48 + d := by rw [UInt8.toNat_ofNat']; omega
    show Lib.parseUintM M acc [UInt8.ofNat (48 + d)] = _
    unfold Lib.parseUintM
    rw [hc, if_pos ⟨by omega, by omega⟩, if_neg (by omega), show 48 + d - 48 = d by omega, if_neg (by omega)]
    rfl
  | c :: r, acc, v, h, hv, hM => by
    rw [List.cons_append]
    unfold Lib.parseUintM at h ⊢
    split at h
    · rename_i h1
      rw [if_pos h1]
      split at h
      · cases h
      · rename_i h2
        rw [if_neg h2]
        split at h
        · cases h
        · rename_i h3
          rw [if_neg h3]
          exact parse_snoc M d hd r _ v h hv hM
    · cases h
theorem parse_digits {M : Nat} (hM : M ≤ 18446744073709551615) (n : Nat) (h : n ≤ M) : Lib.parseUintM M 0 (Lib.decDigits n) = .ok n := by
  induction n using Nat.strongRecOn with
  | _ n ih =>
    rw [Lib.decDigits]
    by_cases h10 : n < 10
    · rw [dif_pos h10]
      have := parse_snoc M n h10 [] 0 0 rfl (by omega) (by omega)
      rwa [Nat.zero_mul, Nat.zero_add] at this
    · rw [dif_neg h10]
      have := parse_snoc M (n % 10) (by omega) (Lib.decDigits (n / 10)) 0 (n / 10) (ih (n / 10) (by omega) (by omega)) (by omega) (by omega)
      rwa [show n / 10 * 10 + n % 10 = n by omega] at this
theorem parse_zeros {M : Nat} (l : Key) : ∀ k, Lib.parseUintM M 0 (List.replicate k 48 ++ l) = Lib.parseUintM M 0 l
  | 0 => rfl
  | k + 1 => by
    rw [List.replicate_succ, List.cons_append]
    conv => lhs; unfold Lib.parseUintM
    rw [if_pos ⟨by decide, by decide⟩, if_neg (by omega), if_neg (by simp)]
    exact parse_zeros l k
theorem parse20 {n : Nat} (h : n ≤ 18446744073709551615) : Lib.parseUintB 64 (dec20 n) = .ok n := by
  unfold Lib.parseUintB
  rw [if_neg (fun e => by have := dec20_len (n := n) (by omega); rw [e] at this; cases this)]
  unfold dec20
  rw [parse_zeros]
  exact parse_digits (by decide) n (by omega)
theorem dec20_inj {m n : Nat} (hm : m ≤ 18446744073709551615) (hn : n ≤ 18446744073709551615) (h : dec20 m = dec20 n) : m = n := by
  have h1 := parse20 hm
  rw [h, parse20 hn] at h1
  injection h1 with h1
  exact h1.symm
theorem snapN_inj {m n : Nat} (hm : m ≤ 18446744073709551615) (hn : n ≤ 18446744073709551615) (h : snapN m = snapN n) : m = n := dec20_inj hm hn (List.append_cancel_left h)
theorem logN_inj {m n : Nat} (hm : m ≤ 18446744073709551615) (hn : n ≤ 18446744073709551615) (h : logN m = logN n) : m = n := dec20_inj hm hn (List.append_cancel_left h)
theorem snap_log (m n : Nat) : snapN m ≠ logN n := fun h => by
  unfold snapN logN snaps logs at h
  injection h with h1
  cases h1
/-- What bytes a numeral has. -/
theorem digits_ok (n : Nat) : ∀ c ∈ Lib.decDigits n, 48 ≤ c.toNat ∧ c.toNat ≤ 57 := by
  induction n using Nat.strongRecOn with
  | _ n ih =>
    have one : ∀ d, d < 10 → 48 ≤ (UInt8.ofNat (48 + d)).toNat ∧ (UInt8.ofNat (48 + d)).toNat ≤ 57 := fun d hd => by
      rw [UInt8.toNat_ofNat']; omega
    rw [Lib.decDigits]
    by_cases h10 : n < 10
    · rw [dif_pos h10]
      intro c hc
      rw [List.mem_singleton] at hc
      rw [hc]; exact one n h10
    · rw [dif_neg h10]
      intro c hc
      rcases List.mem_append.1 hc with hc | hc
      · exact ih (n / 10) (by omega) c hc
      · rw [List.mem_singleton] at hc
        rw [hc]; exact one _ (by omega)
theorem dec20_ok (n : Nat) : ∀ c ∈ dec20 n, okByte c = true := fun c hc => by
  have h : 48 ≤ c.toNat ∧ c.toNat ≤ 57 := by
    unfold dec20 at hc
    rcases List.mem_append.1 hc with hc | hc
    · rw [List.eq_of_mem_replicate hc]; decide
    · exact digits_ok n c hc
  unfold okByte
  simp [h.1, h.2]
theorem may_snap {n : Nat} (h : n ≤ 18446744073709551615) : mayName (snapN n) = true := by
  have hl := dec20_len (n := n) (by omega)
  have hs : (snapN n).length = 25 := by unfold snapN; rw [List.length_append, hl]; rfl
  unfold mayName
  rw [hs]
  simp only [Nat.reduceLeDiff, decide_true, Bool.true_and, List.all_eq_true]
  intro c hc
  unfold snapN at hc
  rcases List.mem_append.1 hc with hc | hc
  · exact (show ∀ c ∈ snaps, okByte c = true by decide) c hc
  · exact dec20_ok n c hc
theorem may_log {n : Nat} (h : n ≤ 18446744073709551615) : mayName (logN n) = true := by
  have hl := dec20_len (n := n) (by omega)
  have hs : (logN n).length = 24 := by unfold logN; rw [List.length_append, hl]; rfl
  unfold mayName
  rw [hs]
  simp only [Nat.reduceLeDiff, decide_true, Bool.true_and, List.all_eq_true]
  intro c hc
  unfold logN at hc
  rcases List.mem_append.1 hc with hc | hc
  · exact (show ∀ c ∈ logs, okByte c = true by decide) c hc
  · exact dec20_ok n c hc
/-- The number of a name. -/
def numOf (h f : Key) : Option Nat :=
  if Lib.hasPrefix f h = true ∧ (Lib.trimPrefix f h).length = 20 then
    match Lib.parseUintB 64 (Lib.trimPrefix f h) with
    | .ok n => if n ≤ 18446744073709551609 then some n else none
    | _ => none
  else none
end Go.Proofs.YtmejdcnnpenaaaaGreatDoor.St
