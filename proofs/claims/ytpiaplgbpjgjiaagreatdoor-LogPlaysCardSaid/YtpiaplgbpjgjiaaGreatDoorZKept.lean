/-
  What a call leaves as it was: all blocks but some.
-/
import Derived.BigQuiet
import Derived.Maps.RangeWalk
import Derived.Maps.Ext
import Derived.Test.YtpiaplgbpjgjiaaGreatDoorZBase
open Go Go.RowKit
namespace Go.Proofs.YtpiaplgbpjgjiaaGreatDoor.Base

/-- All that was there, but the blocks of T, is as it was. -/
structure Kept (T : Nat → Prop) (w w' : World) : Prop where
  os : w'.os = w.os
  tape : w'.tape = w.tape
  output : w'.output = w.output
  size : w.heap.size ≤ w'.heap.size
  block : ∀ k, k < w.heap.size → ¬ T k → w'.heap[k]? = w.heap[k]?
theorem Kept.refl (T : Nat → Prop) (w : World) : Kept T w w := ⟨rfl, rfl, rfl, Nat.le_refl _, fun _ _ _ => rfl⟩
theorem Kept.trans {T T' : Nat → Prop} {a b c : World} (h : Kept T a b) (k : Kept T' b c) (hT : ∀ i, T' i → T i ∨ a.heap.size ≤ i) : Kept T a c :=
  ⟨k.os.trans h.os, k.tape.trans h.tape, k.output.trans h.output, Nat.le_trans h.size k.size, fun i hi hn => by
    rw [k.block i (Nat.lt_of_lt_of_le hi h.size) (fun ht => (hT i ht).elim hn (fun h2 => by omega)), h.block i hi hn]⟩
theorem Kept.mono {T T' : Nat → Prop} {a b : World} (h : Kept T a b) (hT : ∀ i, T i → T' i) : Kept T' a b := ⟨h.os, h.tape, h.output, h.size, fun i hi hn => h.block i hi (fun ht => hn (hT i ht))⟩
theorem Kept.below {T : Nat → Prop} {a b : World} (h : Kept T a b) {K : Nat} (hT : ∀ i, T i → K ≤ i) (hK : K ≤ a.heap.size) : Below K a b :=
  ⟨h.os, h.tape, h.output, h.size, fun i hi => h.block i (by omega) (fun ht => by have := hT i ht; omega)⟩
theorem Kept.of_below {T : Nat → Prop} {a b : World} (h : Below a.heap.size a b) : Kept T a b := ⟨h.os, h.tape, h.output, h.size, fun i hi _ => h.block i hi⟩
theorem Kept.setCell {T : Nat → Prop} {a w : World} (h : Kept T a w) {p : Addr} (hp : T p.block ∨ a.heap.size ≤ p.block) (u : Value) : Kept T a (w.setCell p u) :=
  ⟨h.os, h.tape, h.output, by have := ((Below.refl 0 w).setCell (p := p) (Nat.zero_le _) u).size; exact Nat.le_trans h.size this, fun i hi hn => by
    rw [Below.heap_setCell w p u i (by rintro rfl; rcases hp with hp | hp; exact hn hp; omega), h.block i hi hn]⟩
theorem Kept.turned {T : Nat → Prop} {a w w' : World} {b : Nat} (h : Kept T a w) (ht : w.mapTurned w' b) (hb : T b ∨ a.heap.size ≤ b) : Kept T a w' := by
  have hg := ht.grown
  have h0 : Below 0 w w' := (Below.refl 0 w).grown hg (Nat.zero_le _) (fun _ _ => Nat.zero_le _)
  refine ⟨h0.os.trans h.os, h0.tape.trans h.tape, h0.output.trans h.output, Nat.le_trans h.size h0.size, fun i hi hn => ?_⟩
  rw [hg.block i (Nat.lt_of_lt_of_le hi h.size) (by intro e; injection e with e; subst e; rcases hb with hb | hb; exact hn hb; omega), h.block i hi hn]
theorem CellsAt.kept {T : Nat → Prop} {w w' : World} {b m : Nat} {f : Nat → Value} (h : CellsAt w b m f) (hk : Kept T w w') (hb : b < w.heap.size) (hT : ¬ T b) : CellsAt w' b m f := fun j hj => by
  obtain ⟨h1, h2⟩ := h j hj
  have hh := hk.block b hb hT
  exact ⟨(World.cell?_of_block (a := ⟨b, j, none⟩) hh).trans h1, (World.frozen?_of_block (a := ⟨b, j, none⟩) hh).trans h2⟩
theorem CellsAt.lt {w : World} {b m : Nat} {f : Nat → Value} (h : CellsAt w b m f) (hm : 0 < m) : b < w.heap.size := lt_of_cell (h 0 hm).1
end Go.Proofs.YtpiaplgbpjgjiaaGreatDoor.Base
