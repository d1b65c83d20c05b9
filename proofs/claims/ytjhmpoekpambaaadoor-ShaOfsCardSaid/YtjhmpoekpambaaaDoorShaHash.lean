/-
  A hash in memory (layer 4): what its cells hold behind any bytes; copy from a string into a row of cells.
-/
import Derived.Test.YtjhmpoekpambaaaDoorShaMix
import Derived.Lib.LazyBuf
open Go Go.RowKit
namespace Go.Proofs.YtjhmpoekpambaaaDoor.Sha
open Base

/-- The state behind the first k blocks. -/
def stK (s : List UInt8) : Nat → S8
  | 0 => H0
  | k + 1 => mixF (stK s k) ((s.drop (64 * k)).take 64)
def stateOf (s : List UInt8) : S8 := stK s (s.length / 64)
def Tail (s bs : List UInt8) : Prop := bs.length = 64 ∧ bs.take (s.length % 64) = s.drop (64 * (s.length / 64))
theorem stK_app (s x : List UInt8) (k : Nat) (h : 64 * k ≤ s.length) : stK (s ++ x) k = stK s k := by
  induction k with
  | zero => rfl
  | succ k ih =>
    show mixF (stK (s ++ x) k) _ = mixF (stK s k) _
    rw [ih (by omega), List.drop_append_of_le_length (by omega), List.take_append_of_le_length (by rw [List.length_drop]; omega)]
/-- The block behind the copy of y to its place. -/
def fill (bs y : List UInt8) (a : Nat) : List UInt8 := bs.take a ++ y ++ bs.drop (a + y.length)
theorem fill_length (bs y : List UInt8) (a : Nat) (hb : bs.length = 64) (h : a + y.length ≤ 64) : (fill bs y a).length = 64 := by
  simp [fill, hb]; omega
theorem fill_take (bs y : List UInt8) (a : Nat) (hb : bs.length = 64) (h : a + y.length ≤ 64) : (fill bs y a).take (a + y.length) = bs.take a ++ y := by
  unfold fill
  have e : a + y.length = (bs.take a ++ y).length := by simp [hb]; omega
  rw [e, List.take_left']
  rfl
theorem step_part (s bs y : List UInt8) (h : Tail s bs) (hy : s.length % 64 + y.length < 64) : Tail (s ++ y) (fill bs y (s.length % 64)) ∧ stateOf (s ++ y) = stateOf s := by
  have h1 : (s ++ y).length / 64 = s.length / 64 := by rw [List.length_append]; omega
  have h2 : (s ++ y).length % 64 = s.length % 64 + y.length := by rw [List.length_append]; omega
  refine ⟨⟨fill_length _ _ _ h.1 (by omega), ?_⟩, ?_⟩
  · rw [h2, fill_take _ _ _ h.1 (by omega), h.2, h1, List.drop_append_of_le_length (by omega)]
  · unfold stateOf
    rw [h1, stK_app _ _ _ (by omega)]
theorem step_full (s bs y : List UInt8) (h : Tail s bs) (hy : s.length % 64 + y.length = 64) : Tail (s ++ y) (fill bs y (s.length % 64)) ∧ stateOf (s ++ y) = mixF (stateOf s) (fill bs y (s.length % 64)) := by
  have h1 : (s ++ y).length / 64 = s.length / 64 + 1 := by rw [List.length_append]; omega
  have h2 : (s ++ y).length % 64 = 0 := by rw [List.length_append]; omega
  have hl := fill_length bs y (s.length % 64) h.1 (by omega)
  have hft := fill_take bs y (s.length % 64) h.1 (by omega)
  rw [hy, List.take_of_length_le (by omega), h.2] at hft
  refine ⟨⟨hl, ?_⟩, ?_⟩
  · rw [h2, List.take_zero, List.drop_eq_nil_of_le (by rw [List.length_append]; omega)]
  · unfold stateOf
    rw [h1]
    show mixF (stK (s ++ y) (s.length / 64)) _ = _
    rw [stK_app _ _ _ (by omega), hft, List.drop_append_of_le_length (by omega), List.take_of_length_le (by rw [List.length_append, List.length_drop]; omega)]
/-- A hash behind the bytes s, in memory. -/
def HashAt (w : World) (b : Nat) (s : List UInt8) : Prop := ∃ bs, HashC w b (stateOf s) bs s.length ∧ Tail s bs
theorem HashAt.below {w w' : World} {b : Nat} {s : List UInt8} (h : HashAt w b s) (hb : Below w.heap.size w w') : HashAt w' b s := by
  obtain ⟨bs, h1, h2⟩ := h
  exact ⟨bs, h1.below hb, h2⟩
theorem HashAt.kept {T : Nat → Prop} {w w' : World} {b : Nat} {s : List UInt8} (h : HashAt w b s) (hk : Kept T w w') (hT : ¬ T b) : HashAt w' b s := by
  obtain ⟨bs, h1, h2⟩ := h
  exact ⟨bs, CellsAt.kept h1 hk (h1.lt (by omega)) hT, h2⟩
theorem HashAt.lt {w : World} {b : Nat} {s : List UInt8} (h : HashAt w b s) : b < w.heap.size := by
  obtain ⟨bs, h1, h2⟩ := h
  exact h1.lt (by omega)
theorem TabOk.kept {T : Nat → Prop} {w w' : World} (h : TabOk w) (hk : Kept T w w') (hT : ¬ T 1) : TabOk w' := fun i hi => by
  have hlt := lt_of_cell (h i hi)
  exact (World.cell?_of_block (a := ⟨1, i, none⟩) (hk.block _ hlt hT)).trans (h i hi)

/-! ### copy -/
theorem cells_set {b m : Nat} : ∀ (vs : List Value) (o : Nat) {w : World} {f : Nat → Value}, CellsAt w b m f → o + vs.length ≤ m → CellsAt (w.setCells b o vs) b m fun j => if o ≤ j ∧ j < o + vs.length then vs.getD (j - o) (.bool false) else f j
  | [], o, w, f, h, _ => h.congr fun j hj => by rw [if_neg (by simp)]
  | v :: r, o, w, f, h, hm => by
    have h1 := cells_set r (o + 1) (h.set (i := o) (by simp at hm; omega) v) (by simp at hm; omega)
    refine CellsAt.congr h1 fun j hj => ?_
    simp only [List.length_cons]
    by_cases hjo : j = o
    · subst hjo
      rw [if_neg (by omega), if_pos rfl, if_pos (by omega), Nat.sub_self]
      rfl
    · by_cases hin : o ≤ j ∧ j < o + (r.length + 1)
      · rw [if_pos (by omega), if_pos hin, show j - o = (j - (o + 1)) + 1 by omega]
        rfl
      · rw [if_neg (by omega), if_neg hjo, if_neg hin]
theorem kept_set {T : Nat → Prop} {a : World} {b : Nat} (hb : T b) : ∀ (vs : List Value) (o : Nat) {w : World}, Kept T a w → Kept T a (w.setCells b o vs)
  | [], _, _, h => h
  | v :: r, o, _, h => kept_set hb r (o + 1) (h.setCell (p := ⟨b, o, none⟩) (.inl hb) v)
def bytesV (l : List UInt8) : List Value := l.map fun x => Value.int .u8 (x.toNat : Int)
theorem copy_str (w : World) (b o d n : Nat) (y : List UInt8) (hn : Nat.min y.length d = n)
    (hc : ∀ j, j < n → (w.cell? ⟨b, o + j, none⟩).isSome = true) (hf : ∀ j, j < n → w.frozen? ⟨b, o + j, none⟩ = false) :
    (Builtin.copy_ #[35, 9] 3 #[.slice (some ⟨b, o, none⟩) d d, .string (B y)]).run Tryd.prog w = .ok (.int .i64 (n : Int)) (w.setCells b o (bytesV (y.take n))) := by
  have hl : (bytesV (y.take n)).length = n := by simp [bytesV]; rw [← hn]; exact Nat.min_eq_left (Nat.min_le_left _ _) |>.trans rfl
  have hst := run_storeCells_cells (P := Tryd.prog) b o (bytesV (y.take n)) 0 w (by rw [hl]; simpa using hc) (by rw [hl]; simpa using hf) (by
    intro v hv
    obtain ⟨x, _, rfl⟩ := List.mem_map.1 hv
    rfl)
  have hm : List.take n (List.map (fun x : UInt8 => Value.int .u8 (x.toNat : Int)) y) = bytesV (y.take n) := by simp [bytesV, List.map_take]
  simp [Builtin.copy_, run_underlying Tryd.underlying35, Builtin.lenOf, Builtin.firstCells, Tryd.sizeOf5, B_size, hn, B_data, hm, hst, goInt, Result.andThen]
end Go.Proofs.YtjhmpoekpambaaaDoor.Sha
