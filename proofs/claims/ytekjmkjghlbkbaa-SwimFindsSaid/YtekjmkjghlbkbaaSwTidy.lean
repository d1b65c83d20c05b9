/-
  Swim (layer 22): the walk of tidy. No condition.
-/
import Derived.Test.YtekjmkjghlbkbaaBase
import Derived.Test.YtekjmkjghlbkbaaSwShelf
import Derived.Lib.OwnBridge
import Derived.WalkLawsBesides
import Derived.WalkSpells
import Derived.Outline
import Derived.BigQuiet
open Go Go.RowKit Go.Sort
namespace Go.Proofs.Ytekjmkjghlbkbaa.Sw
open Base

abbrev Key := List UInt8
def StrsArg (w : World) (p : Option Addr) (ks : List Key) : Prop := ∀ j (h : j < ks.length), ∃ b off, p = some ⟨b, off, none⟩ ∧ w.cell? ⟨b, off + j, none⟩ = some (.string (B ks[j]))
theorem StrsArg.below {w w' : World} {p : Option Addr} {ks : List Key} (h : StrsArg w p ks) (hb : Below w.heap.size w w') : StrsArg w' p ks := fun j hj => by
  obtain ⟨b, off, h1, h2⟩ := h j hj
  exact ⟨b, off, h1, (hb.cell (p := ⟨b, off + j, none⟩) (lt_of_cell h2)).trans h2⟩
def leK (a b : Key) : Bool := decide (a ≤ b)
def dropE : List Key → List Key
  | [] => []
  | x :: r => if x = [] then r else x :: r
def tidyL (ms : List Key) : List Key := dropE (Lib.compact (ms.mergeSort fun x y => decide (x ≤ y)))
theorem own_holds {w : World} {base g cap n : Nat} {ks : List Key} (h : w.ownsRow base 9 1 (.slice (some ⟨g, 0, none⟩) n cap) n (ks.map fun k => Value.string (B k))) : Holds encStr w g 0 ks.toArray := fun j hj => by
  have hl := h.1
  rw [List.length_map] at hl
  have hj' : j < ks.length := by simpa using hj
  refine ⟨?_, by have := h.frozenAt (0 + j); exact this⟩
  have h1 := h.cellAt (0 + j) (by omega)
  rw [h1, Nat.zero_add, List.getElem?_map, List.getElem?_eq_getElem hj']
  simp [encStr, hj', B]
theorem holds_strs {w : World} {g : Nat} {ks : List Key} {d : Array Key} (h : Holds encStr w g 0 d) (hd : ∀ j (h : j < ks.length), j < d.size ∧ d[j]! = ks[j]) : StrsArg w (some ⟨g, 0, none⟩) ks := fun j hj => by
  obtain ⟨h1, h2⟩ := hd j hj
  have := (h j h1).1
  rw [h2] at this
  exact ⟨g, 0, rfl, this⟩

theorem Clone_f (w : World) (p : Option Addr) (cap : Nat) (ms : List Key) (h : StrsArg w p ms) (hn : 0 < ms.length) (hb : ms.length ≤ 8796093022207) :
    Calls Try.prog 18 #[.slice p ms.length cap] w fun e w' => ∃ g cap', e = .returned (.slice (some ⟨g, 0, none⟩) ms.length cap') ∧ w.heap.size ≤ g ∧ g < w'.heap.size ∧ ms.length ≤ cap' ∧ Holds encStr w' g 0 ms.toArray ∧ Below w.heap.size w w' := by
  obtain ⟨b, off, rfl, h0⟩ := h 0 hn
  refine (Try.slices_Clone_string b off ms.length cap (ms.map B) w (by simp) (by omega) (fun j hj => ?_)).mono ?_
  · have hj' : j < ms.length := by simpa using hj
    obtain ⟨b', off', he, hc⟩ := h j hj'
    injection he with he
    injection he with h1 h2
    subst h1 h2
    rw [hc]
    simp [hj']
  · rintro e w' ⟨v, rfl, ho, hv, hb⟩
    rcases ho.2 with ⟨rfl, _⟩ | ⟨g, cap', cur, rfl, hg, hh, hnc, r⟩
    · exact absurd rfl hv
    · have hlt := (ho.lt g rfl).2
      have e1 : ((ms.map B).take ms.length).map Value.string = ms.map fun k => Value.string (B k) := by
        rw [List.take_of_length_le (by simp), List.map_map]; rfl
      rw [e1] at ho
      exact ⟨g, cap', rfl, hg, hlt, hnc, own_holds ho, hb⟩
theorem below_sorted {B0 : Nat} {w0 w : World} {g n : Nat} {d : Array Key} {os : Array Obj} (h : RowKit.Below B0 w0 w) (hg : B0 ≤ g) (hgl : g < w.heap.size) : RowKit.Below B0 w0 (grow (putRow encStr (Sort.ahead w n) g 0 d) os) := by
  have h1 := Lib.below_putRow (enc := encStr) (d := d) (q := n) h hg
  exact ⟨h1.os, h1.tape, h1.output, by rw [size_grow]; exact Nat.le_trans h1.size (Nat.le_add_right _ _), fun k hk => by
    rw [heap_grow_old _ _ (by rw [size_putRow]; show k < w.heap.size; omega)]; exact h1.block k hk⟩
theorem Sort_f (w : World) (g cap : Nat) (ms : List Key) (hH : Holds encStr w g 0 ms.toArray) (hg : g < w.heap.size) (hb : ms.length ≤ 8796093022207) :
    Calls Try.prog 19 #[.slice (some ⟨g, 0, none⟩) ms.length cap] w fun e w' => e = .returned (.tuple #[]) ∧ Holds encStr w' g 0 (ms.mergeSort fun x y => decide (x ≤ y)).toArray ∧ g < w'.heap.size ∧ ∀ B0 w0, RowKit.Below B0 w0 w → B0 ≤ g → RowKit.Below B0 w0 w' := by
  refine (Try.slices_Sort_string g 0 cap ms w hH hg (by omega)).mono ?_
  rintro e w' ⟨rfl, n, os, rfl⟩
  refine ⟨rfl, ?_, ?_, fun B0 w0 h hB => below_sorted h hB hg⟩
  · refine holds_grow _ _ _ _ _ _ (by simpa using hg) (holds_putRow _ _ _ _ ms.toArray _ (holds_ahead _ _ _ _ _ _ hH) ?_)
    simp [(List.mergeSort_perm ms _).length_eq]
  · rw [size_grow, size_putRow]; exact Nat.lt_of_lt_of_le hg (Nat.le_add_right _ _)
theorem Compact_f (w : World) (g cap : Nat) (ms : List Key) (hH : Holds encStr w g 0 ms.toArray) (hg : g < w.heap.size) (hc : ms.length ≤ cap) (hb : ms.length ≤ 8796093022207) :
    Calls Try.prog 20 #[.slice (some ⟨g, 0, none⟩) ms.length cap] w fun e w' => e = .returned (.slice (some ⟨g, 0, none⟩) (Lib.compact ms).length cap) ∧ StrsArg w' (some ⟨g, 0, none⟩) (Lib.compact ms) ∧ g < w'.heap.size ∧ ∀ B0 w0, RowKit.Below B0 w0 w → B0 ≤ g → RowKit.Below B0 w0 w' := by
  refine (Try.slices_Compact_string g 0 cap ms w hH (by omega) hc).mono ?_
  rintro e w' ⟨rfl, q, rfl⟩
  have hle : (Lib.compact ms).length ≤ ms.length := by
    unfold Lib.compact Lib.compactUpTo
    rw [List.length_map]
    refine Nat.le_trans (List.length_filter_le _ _) ?_
    simp
  have hH2 : Holds encStr (putRow encStr (Sort.ahead w q) g 0 (Lib.compact ms ++ List.replicate (ms.length - (Lib.compact ms).length) []).toArray) g 0 (Lib.compact ms ++ List.replicate (ms.length - (Lib.compact ms).length) []).toArray :=
    holds_putRow _ _ _ _ ms.toArray _ (holds_ahead _ _ _ _ _ _ hH) (by simp; omega)
  refine ⟨rfl, holds_strs hH2 fun j hj => ?_, by rw [size_putRow]; exact hg, fun B0 w0 h hB => Lib.below_putRow h hB⟩
  refine ⟨by simp; omega, ?_⟩
  have : (Lib.compact ms ++ List.replicate (ms.length - (Lib.compact ms).length) []).toArray[j]? = some (Lib.compact ms)[j] := by
    rw [List.getElem?_toArray, List.getElem?_append_left hj, List.getElem?_eq_getElem hj]
  rw [getElem!_def, this]
theorem compact_len (ms : List Key) : (Lib.compact ms).length ≤ ms.length := by
  unfold Lib.compact Lib.compactUpTo
  rw [List.length_map]
  refine Nat.le_trans (List.length_filter_le _ _) ?_
  simp
theorem strs_tail {w : World} {g : Nat} {x : Key} {r : List Key} (h : StrsArg w (some ⟨g, 0, none⟩) (x :: r)) : StrsArg w (some ⟨g, 1, none⟩) r := fun j hj => by
  obtain ⟨b, off, h1, h2⟩ := h (j + 1) (by simpa using hj)
  injection h1 with h1
  injection h1 with h3 h4
  subst h3 h4
  exact ⟨g, 1, rfl, by rw [show 1 + j = 0 + (j + 1) by omega]; exact h2⟩
/-- What tidy hands back. -/
def TidyPost (w : World) (ms : List Key) (e : Ending) (w' : World) : Prop := ∃ q c, e = .returned (.slice q (tidyL ms).length c) ∧ StrsArg w' q (tidyL ms) ∧ Below w.heap.size w w'
set_option maxHeartbeats 1000000 in
theorem Tidy_f (w : World) (p : Option Addr) (cap : Nat) (ms : List Key) (h : StrsArg w p ms) (hn : 0 < ms.length) (hb : ms.length ≤ 8796093022207) :
    Calls Try.prog 14 #[.slice p ms.length cap] w (TidyPost w ms) := by
  have HC := Lib.hid (Clone_f w p cap ms h hn hb)
  clear h
  go_enter Try.func14, Try.ntmps14
  go_wp2_with fail
  with_reducible refine HC.out.mono ?_
  rintro e w1 ⟨g, cap1, rfl, hg1, hg2, hc1, hh1, hb1⟩
  have HS := Lib.hid (Sort_f w1 g cap1 ms hh1 hg2 hb)
  have HB1 := Lib.hid hb1
  have HG := Lib.hid (And.intro hg1 hc1)
  clear hh1 hb1 hg1 hg2 hc1 HC
  go_wp2_with fail
  with_reducible refine HS.out.mono ?_
  rintro e w2 ⟨rfl, hh2, hg2, hb2⟩
  have hlen : (ms.mergeSort fun x y => decide (x ≤ y)).length = ms.length := (List.mergeSort_perm ms _).length_eq
  have HT := Lib.hid (show dropE (Lib.compact (ms.mergeSort fun x y => decide (x ≤ y))) = tidyL ms from rfl)
  have HB2 := Lib.hid (hb2 _ _ HB1.out HG.out.1)
  generalize (ms.mergeSort fun x y => decide (x ≤ y)) = ss at *
  have HP := Lib.hid (Compact_f w2 g cap1 ss hh2 hg2 (by rw [hlen]; exact HG.out.2) (by omega))
  rw [hlen] at HP
  have HLE := Lib.hid (compact_len ss)
  clear hh2 hb2 hg2 HS HB1
  go_wp2_with fail
  with_reducible refine HP.out.mono ?_
  rintro e w3 ⟨rfl, hs3, hg3, hb3⟩
  have HB3 := Lib.hid (hb3 _ _ HB2.out HG.out.1)
  clear hb3 HP HB2 hg3
  generalize Lib.compact ss = cs at *
  cases cs with
  | nil =>
    have HS3 := Lib.hid hs3
    clear hs3
    simp only [List.length_nil]
    go_wp2
    go_ret
    refine ⟨some ⟨g, 0, none⟩, cap1, ?_, ?_, HB3.out⟩
    · rw [← HT.out]; rfl
    · rw [← HT.out]; exact HS3.out
  | cons x r =>
    obtain ⟨b0, o0, he, hc0⟩ := hs3 0 (by simp)
    injection he with he
    injection he with h3 h4
    subst h3 h4
    have HS3 := Lib.hid hs3
    clear hs3
    simp only [Nat.add_zero, List.getElem_cons_zero] at hc0
    have hrl : r.length + 1 ≤ ms.length := by have := HLE.out; simp only [List.length_cons] at this; omega
    have hcr : r.length + 1 ≤ cap1 := Nat.le_trans hrl HG.out.2
    simp only [List.length_cons]
    by_cases hx : x = []
    · have t1 : x.isEmpty = true := by rw [hx]; rfl
      have HX := Lib.hid hx
      clear hx
      by_cases hc1 : cap1 = 1
      · subst hc1
        have hr0 : r = [] := List.length_eq_zero_iff.1 (by omega)
        subst hr0
        simp only [List.length_nil, Nat.zero_add]
        go_wp2
        all_goals
          go_ret
          refine ⟨some ⟨g, 0, none⟩, 0, ?_, ?_, HB3.out⟩
          · rw [← HT.out, dropE, if_pos HX.out]; rfl
          · rw [← HT.out, dropE, if_pos HX.out]; exact fun j hj => by simp at hj
      · have hc2 : 1 < cap1 := by omega
        have hc3 : ¬ cap1 - 1 = 0 := by omega
        go_wp2
        all_goals
          go_ret
          refine ⟨some ⟨g, 1, none⟩, cap1 - 1, ?_, ?_, HB3.out⟩
          · rw [← HT.out, dropE, if_pos HX.out]; rfl
          · rw [← HT.out, dropE, if_pos HX.out]; exact strs_tail HS3.out
    · have t1 : x.isEmpty = false := by cases x; exact absurd rfl hx; rfl
      have HX := Lib.hid hx
      clear hx
      go_wp2
      go_ret
      refine ⟨some ⟨g, 0, none⟩, cap1, ?_, ?_, HB3.out⟩
      · rw [← HT.out, dropE, if_neg HX.out]; rfl
      · rw [← HT.out, dropE, if_neg HX.out]; exact HS3.out

end Go.Proofs.Ytekjmkjghlbkbaa.Sw
