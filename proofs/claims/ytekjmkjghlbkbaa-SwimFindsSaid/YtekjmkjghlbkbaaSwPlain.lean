/-
  Swim (layer 22): plain words on lists of names in order. No condition; no program in sight.
-/
import Derived.Test.YtekjmkjghlbkbaaSwTickM
open Go Go.RowKit Go.Sort
namespace Go.Proofs.Ytekjmkjghlbkbaa.Sw
open Base

theorem compact_rise (l : List Key) (h : l.Pairwise (· < ·)) : Lib.compact l = l := by
  refine Lib.compact_all l fun j hj => ?_
  rcases Nat.eq_zero_or_pos j with rfl | hp
  · exact Lib.keeps_lt_one _ 0 (by omega)
  · refine Lib.keeps_pos ?_
    have h1 := List.pairwise_iff_getElem.1 h (j - 1) j (by omega) hj (by omega)
    have e1 : (l.toArray)[j]! = l[j] := by simp [hj]
    have e2 : (l.toArray)[j - 1]! = l[j - 1] := by simp [show j - 1 < l.length by omega]
    rw [e1, e2]
    intro e
    rw [e] at h1
    exact List.lt_irrefl _ h1
/-- Names in order, none empty, are tidy. -/
theorem tidy_id (l : List Key) (h : l.Pairwise (· < ·)) (h0 : [] ∉ l) : tidyL l = l := by
  unfold tidyL
  rw [List.mergeSort_of_pairwise (h.imp fun hab => decide_eq_true (List.le_of_lt hab)), compact_rise l h]
  cases l with
  | nil => rfl
  | cons x r =>
    show (if x = [] then r else x :: r) = x :: r
    rw [if_neg]
    rintro rfl
    exact h0 (by simp)
/-- The i-th name. -/
def letter (i : Nat) : Key := [UInt8.ofNat (97 + i)]
def letters (n : Nat) : List Key := (List.range n).map letter
theorem letter_lt {i j : Nat} (hj : j < 12) (h : i < j) : letter i < letter j := by
  have : ∀ j : Fin 12, ∀ i : Fin 12, i < j → letter i.val < letter j.val := by decide
  exact this ⟨j, hj⟩ ⟨i, by omega⟩ h
theorem letters_rise (n : Nat) (hn : n ≤ 12) : (letters n).Pairwise (· < ·) := by
  unfold letters
  rw [List.pairwise_map]
  refine List.pairwise_lt_range.imp_of_mem fun ha hb hab => ?_
  exact letter_lt (by have := List.mem_range.1 hb; omega) hab
theorem letters_full (n : Nat) : [] ∉ letters n := by
  intro h
  obtain ⟨i, _, hi⟩ := List.mem_map.1 h
  simp [letter] at hi
theorem letters_len (n : Nat) : (letters n).length = n := by simp [letters]
theorem letters_get (n i : Nat) (h : i < (letters n).length) : (letters n)[i] = letter i := by simp [letters]
end Go.Proofs.Ytekjmkjghlbkbaa.Sw
