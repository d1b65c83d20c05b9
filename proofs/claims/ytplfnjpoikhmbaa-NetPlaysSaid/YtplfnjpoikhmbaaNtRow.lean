/-
  The net (layer 30): a row of numbers of 64 bits that a sort turns: from world to world the row alone, draws, and new blocks. No condition.
-/
import Derived.Test.YtplfnjpoikhmbaaNtIns
import Derived.Sort.Grow
import Derived.Sort.AssemblyPlain
open Go Go.RowKit Go.Sort
namespace Go.Proofs.Ytplfnjpoikhmbaa.Nt
open Base

/-- From w to w' the row went from d to d'; all else is as it was but for draws and new blocks. -/
structure RowTo (blk off : Nat) (w w' : World) (d d' : Array Int) : Prop where
  size : d'.size = d.size
  eq : ∃ n os, w' = grow (putRow U (Sort.ahead w n) blk off d') os
section
variable {blk off : Nat} {w w1 w2 : World} {d d1 d2 : Array Int}
theorem RowTo.refl (hH : Holds U w blk off d) : RowTo blk off w w d d := ⟨rfl, 0, #[], by rw [grow_empty, ahead_zero, putRow_self _ _ _ _ _ hH]⟩
theorem RowTo.trans (hb : blk < w.heap.size) (h : RowTo blk off w w1 d d1) (k : RowTo blk off w1 w2 d1 d2) : RowTo blk off w w2 d d2 := by
  obtain ⟨s1, n, os, rfl⟩ := h
  obtain ⟨s2, m, os2, rfl⟩ := k
  exact ⟨s2.trans s1, n + m, os ++ os2, grow_step_grow U w os os2 n m blk off d1 d2 hb s2⟩
theorem RowTo.holds (hb : blk < w.heap.size) (hH : Holds U w blk off d) (h : RowTo blk off w w1 d d1) : Holds U w1 blk off d1 := by
  obtain ⟨s1, n, os, rfl⟩ := h
  exact holds_grow _ _ _ _ _ _ (by simpa using hb) (holds_putRow U _ blk off d d1 (holds_ahead U w n blk off d hH) s1)
theorem RowTo.lt (hb : blk < w.heap.size) (h : RowTo blk off w w1 d d1) : blk < w1.heap.size := by
  obtain ⟨s1, n, os, rfl⟩ := h
  simp; omega
theorem RowTo.more (h : RowTo blk off w w1 d d1) : w.heap.size ≤ w1.heap.size := by
  obtain ⟨s1, n, os, rfl⟩ := h
  simp
theorem RowTo.drewN (h : RowTo blk off w w1 d d1) (m : Nat) : RowTo blk off w (w1.drewN m) d d1 := by
  obtain ⟨s1, n, os, rfl⟩ := h
  exact ⟨s1, n + m, os, by rw [← putRow_drewN]; rfl⟩
theorem RowTo.drew (h : RowTo blk off w w1 d d1) : RowTo blk off w w1.drew d d1 := h.drewN 1
theorem RowTo.alloc (h : RowTo blk off w w1 d d1) (o : Obj) : RowTo blk off w (w1.alloc o) d d1 := by
  obtain ⟨s1, n, os, rfl⟩ := h
  exact ⟨s1, n, os ++ #[o], by rw [alloc_eq_grow, grow_grow]⟩
/-- A store into a new block. -/
theorem RowTo.aside (h : RowTo blk off w w1 d d1) {b o : Nat} (hb : w.heap.size ≤ b) (v : Value) : RowTo blk off w (w1.setCell ⟨b, o, none⟩ v) d d1 := by
  obtain ⟨s1, n, os, rfl⟩ := h
  exact ⟨s1, n, _, by rw [setCell_eq, mapBlock_grow_new _ _ _ _ (by simpa using hb)]⟩
/-- Two cells of the row change places. -/
theorem RowTo.swap (hb : blk < w.heap.size) (h : RowTo blk off w w1 d d1) {i j : Nat} (hi : i < d.size) (hj : j < d.size) {x y : Value} (hx : x = U d1[j]!) (hy : y = U d1[i]!) :
    RowTo blk off w ((w1.setCell ⟨blk, off + i, none⟩ x).setCell ⟨blk, off + j, none⟩ y) d (swp d1 i j) := by
  obtain ⟨s1, n, os, rfl⟩ := h
  refine ⟨by rw [size_swp, s1], n, os, ?_⟩
  subst hx hy
  rw [setCell_eq (grow _ os) blk (off + i), mapBlock_grow _ _ _ _ (by simpa using hb), setCell_eq, mapBlock_grow _ _ _ _ (by simpa [mapBlock] using hb), ← setCell_eq, ← setCell_eq, putRow_swp U _ blk off d1 i j (by omega) (by omega)]
theorem RowTo.of_put {n : Nat} (hs : d1.size = d.size) (h : w1 = putRow U (Sort.ahead w n) blk off d1) : RowTo blk off w w1 d d1 := ⟨hs, n, #[], by rw [grow_empty]; exact h⟩
theorem RowTo.below (h : RowTo blk off w w1 d d1) {K : Nat} (hK : K ≤ blk) (hb : blk < w.heap.size) : Below K w w1 := by
  obtain ⟨s1, n, os, rfl⟩ := h
  refine ⟨rfl, rfl, rfl, by simp, fun k hk => ?_⟩
  rw [heap_grow_old _ _ (by simp; omega)]
  have : blk ≠ k := by omega
  simp [putRow, mapBlock, Sort.ahead, Array.getElem?_modify, this]
theorem RowTo.perm {a b : Nat} (h : PermIn a b d d1) (hb : b ≤ d.size) {i j : Nat} (hi : a ≤ i) (hi2 : i < b) (hj : a ≤ j) (hj2 : j < b) : PermIn a b d (swp d1 i j) :=
  permIn_trans _ _ _ _ _ h (swp_permIn _ _ _ _ _ hi hi2 hj hj2 (by rw [h.1]; exact hb))
end
/-- The cells of a row, as facts for a walk. -/
theorem row_cells {blk off : Nat} {w : World} {d : Array Int} (hH : Holds U w blk off d) (G : Nat → Int) (hG : ∀ t, G t = d[t]!) : (∀ t, t < d.size → w.cell? ⟨blk, off + t, none⟩ = some (.int .u64 (G t))) ∧ ∀ t, t < d.size → w.frozen? ⟨blk, off + t, none⟩ = false :=
  ⟨fun t ht => by rw [hG]; exact (hH t ht).1, fun t ht => (hH t ht).2⟩
end Go.Proofs.Ytplfnjpoikhmbaa.Nt
