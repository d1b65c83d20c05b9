/-
  Swim (layer 22): what the three plays share: the names a, b, .. in memory, a copy of them, who comes next. No condition but that there are 12 names at most.
-/
import Derived.Test.YtekjmkjghlbkbaaSwNone
open Go Go.RowKit Go.Sort
namespace Go.Proofs.Ytekjmkjghlbkbaa.Sw
open Base

theorem next_all : ∀ n : Fin 13, ∀ i : Fin 12, i.val < n.val → ((letters n.val).find? fun m => decide (letter i.val < m)).getD ((letters n.val).headD []) = letter ((i.val + 1) % n.val) := by decide +kernel
theorem next_letter (n i : Nat) (hn : n ≤ 12) (hi : i < n) : ((letters n).find? fun m => decide (letter i < m)).getD ((letters n).headD []) = letter ((i + 1) % n) := next_all ⟨n, by omega⟩ ⟨i, by omega⟩ hi
theorem first_letter (n : Nat) (hn : 0 < n) : (letters n).headD [] = letter 0 := by
  obtain ⟨m, rfl⟩ : ∃ m, n = m + 1 := ⟨n - 1, by omega⟩
  simp [letters, List.range_succ_eq_map]
theorem letters_tidy (n : Nat) (hn : n ≤ 12) : tidyL (letters n) = letters n := tidy_id _ (letters_rise n hn) (letters_full n)
theorem letters_succ (n : Nat) : letters (n + 1) = letters n ++ [letter n] := by simp [letters, List.range_succ]
theorem letter_B (i : Nat) : B (letter i) = ⟨#[UInt8.ofNat (97 + i)]⟩ := rfl
/-- 'append([]string(nil), l...)'. -/
theorem append_all (W : World) (p : Option Addr) (cap : Nat) (ks : List Key) (h : StrsArg W p ks) (hn : 0 < ks.length) (hb : ks.length ≤ 2199023255552) :
    ∃ g cap' w', (Builtin.append_ #[32, 32] 32 #[.slice none 0 0, .slice p ks.length cap]).run Try.prog W = .ok (.slice (some ⟨g, 0, none⟩) ks.length cap') w' ∧
      StrsArg w' (some ⟨g, 0, none⟩) ks ∧ Below W.heap.size W w' ∧ W.heap.size ≤ g := by
  obtain ⟨i0, hi, hz0, hz1, hz2⟩ := info_parts infoStr
  obtain ⟨b0, o0, rfl, _⟩ := h 0 hn
  obtain ⟨g, cap', w', h1, h2, h3, h4, -⟩ := run_append_lies (P := Try.prog) W 32 32 W.heap.size 9 i0 _ 1 16 Try.underlying32 hi hz0 hz1 hz2 rfl (by decide)
    (.slice none 0 0) 0 [] (no_asks _ _ _ _) ⟨b0, o0, none⟩ ks.length cap (ks.map strC) (by simp) (fun j u hj => by
      rw [List.getElem?_map] at hj
      rcases Nat.lt_or_ge j ks.length with hl | hl
      · rw [List.getElem?_eq_getElem hl] at hj
        obtain ⟨b1, o1, he, hc⟩ := h j hl
        injection he with he
        injection he with e1 e2
        subst e1 e2
        rw [show (⟨b0, o0, none⟩ : Addr).add j = ⟨b0, o0 + j, none⟩ by simp [Addr.add], hc]
        exact hj
      · rw [List.getElem?_eq_none hl] at hj; cases hj) (by intro u hu; obtain ⟨k, _, rfl⟩ := List.mem_map.1 hu; rfl) hn (by unfold maxLen; omega) (by omega) (Nat.le_refl _) _ rfl
  rw [Nat.zero_add] at h1 h2
  rw [List.nil_append] at h2
  obtain ⟨q, cq, hq, _, ha⟩ := own_strs h2
  injection hq with hq1 hq2 hq3
  subst hq1
  exact ⟨g, cap', w', h1, ha, (Below.refl _ _).grown h3 (Nat.le_refl _) (fun q hq => by cases hq), by have := (h2.lt g rfl).1; omega⟩
theorem no_asksv {w : World} {base : Nat} {v : Value} (h : w.ownsRow base 39 3 v ([] : List AskD).length (([] : List AskD).flatMap askC)) : ∃ p cap, v = .slice p 0 cap := by
  obtain ⟨p, cap, rfl, _⟩ := asks_form h
  exact ⟨p, cap, rfl⟩
theorem conv_letter (W : World) (i : Nat) (hi : i < 12) : (convert 23 9 (.slice (some ⟨W.heap.size, 0, none⟩) 1 1)).run Try.prog (W.alloc (.cells #[.int .u8 (97 + (i : Int))] 5)) = .ok (.string (B (letter i))) (W.alloc (.cells #[.int .u8 (97 + (i : Int))] 5)) := by
  have hB : BytesAt (W.alloc (.cells #[.int .u8 (97 + (i : Int))] 5)) W.heap.size (letter i) := bytesAt_cells W (letter i) 5 _ (by
    have : ((UInt8.ofNat (97 + i)).toNat : Int) = 97 + (i : Int) := by
      rw [UInt8.toNat_ofNat', Nat.mod_eq_of_lt (by omega)]; omega
    show #[Value.int .u8 (97 + (i : Int))] = #[Value.int .u8 ((UInt8.ofNat (97 + i)).toNat : Int)]
    rw [this])
  exact hB.back 23 9 5 1 1 rfl Try.underlying23 Try.underlying5 Try.underlying9
end Go.Proofs.Ytekjmkjghlbkbaa.Sw
