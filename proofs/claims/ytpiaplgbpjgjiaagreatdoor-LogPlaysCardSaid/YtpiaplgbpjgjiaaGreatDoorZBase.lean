/-
  Small words for walks: a block that holds bytes. No program in sight but the model's own. No condition.
-/
import Derived.WalkKit
import Derived.Lib.Hide
import Derived.Deep.Draws
open Go Go.RowKit
namespace Go.Proofs.YtpiaplgbpjgjiaaGreatDoor.Base

/-- A string of bytes. -/
def B (l : List UInt8) : ByteArray := ⟨l.toArray⟩
theorem B_data (l : List UInt8) : (B l).data.toList = l := rfl
theorem B_of (s : ByteArray) : s = B s.data.toList := rfl
@[go_sem] theorem B_size (l : List UInt8) : (B l).size = l.length := by simp [B, ByteArray.size]
theorem B_inj {a b : List UInt8} : B a = B b ↔ a = b := ⟨fun h => by rw [← B_data a, ← B_data b, h], fun h => by rw [h]⟩
@[go_sem] theorem B_toList (l : List UInt8) : (B l).toList = l := by rw [ByteArray.toList_eq]; rfl
@[go_sem] theorem B_append (a b : List UInt8) : B a ++ B b = B (a ++ b) := by
  rw [B_of (B a ++ B b)]; simp [B]
@[go_sem] theorem B_extract (l : List UInt8) (i j : Nat) : (B l).extract i j = B ((l.take j).drop i) := by
  rw [B_of ((B l).extract i j)]
  congr 1
  simp [B, List.extract_eq_take_drop, List.drop_take]
@[go_sem] theorem B_get (l : List UInt8) (i : Nat) (h : i < (B l).size) : (B l)[i]'h = l[i]'(by rw [B_size] at h; exact h) := rfl
theorem _root_.Go.RowKit.Below.drewN {B : Nat} {a w : World} (h : Below B a w) (n : Nat) : Below B a (w.drewN n) := ⟨h.os, h.tape, h.output, h.size, h.block⟩
/-- Block b of w holds the bytes l, and may be written. -/
def BytesAt (w : World) (b : Nat) (l : List UInt8) : Prop := ∀ j (h : j < l.length), w.cell? ⟨b, j, none⟩ = some (.int .u8 (l[j].toNat : Int)) ∧ w.frozen? ⟨b, j, none⟩ = false

/-- What '[]byte(s)' lays. -/
theorem bytesAt_new (w : World) (s : ByteArray) (cap : Nat) (e : TypeId) : BytesAt (w.alloc (.cells (bytesRow s cap) e ((bytesRow s cap).size, (bytesRow s cap).size + 1))) w.heap.size s.data.toList := by
  intro j h
  have h' : j < s.data.size := by simpa using h
  have hr := bytesRow_at s cap j h'
  refine ⟨?_, ?_⟩
  · rw [World.cell?_alloc_mark, hr]; simp
  · rw [World.frozen?_alloc_mark]
    have : j < (bytesRow s cap).size := by
      rcases Nat.lt_or_ge j (bytesRow s cap).size with hh | hh
      · exact hh
      · rw [Array.getElem?_eq_none hh] at hr; cases hr
    simp; omega
/-- A literal of bytes. -/
theorem bytesAt_cells (w : World) (l : List UInt8) (e : TypeId) (C : Array Value) (hC : C = (l.map fun c => Value.int .u8 (c.toNat : Int)).toArray) : BytesAt (w.alloc (.cells C e)) w.heap.size l := by
  subst hC
  intro j h
  refine ⟨?_, ?_⟩
  · have := World.cell?_alloc_mark w (l.map fun c => Value.int .u8 (c.toNat : Int)).toArray e (0, 0) j
    rw [show (w.alloc (.cells (l.map fun c => Value.int .u8 (c.toNat : Int)).toArray e)).cell? ⟨w.heap.size, j, none⟩ = _ from this]
    simp [h]
  · have := World.frozen?_alloc_mark w (l.map fun c => Value.int .u8 (c.toNat : Int)).toArray e 0 0 j
    rw [show (w.alloc (.cells (l.map fun c => Value.int .u8 (c.toNat : Int)).toArray e)).frozen? ⟨w.heap.size, j, none⟩ = _ from this]
    simp
theorem BytesAt.drew {w : World} {b : Nat} {l : List UInt8} (h : BytesAt w b l) : BytesAt w.drew b l := h
theorem BytesAt.drewN {w : World} {b : Nat} {l : List UInt8} (h : BytesAt w b l) (n : Nat) : BytesAt (w.drewN n) b l := fun j hj => by
  obtain ⟨h1, h2⟩ := h j hj
  exact ⟨h1, h2⟩
theorem BytesAt.below {w w' : World} {B b : Nat} {l : List UInt8} (h : BytesAt w b l) (hb : Below B w w') (hlt : b < B) : BytesAt w' b l := fun j hj => by
  obtain ⟨h1, h2⟩ := h j hj
  exact ⟨(hb.cell (p := ⟨b, j, none⟩) hlt).trans h1, (hb.frozen (p := ⟨b, j, none⟩) hlt).trans h2⟩
/-- A store of one byte. -/
theorem BytesAt.set {w : World} {b : Nat} {l : List UInt8} (h : BytesAt w b l) (i : Nat) (hi : i < l.length) (c : UInt8) : BytesAt (w.setCell ⟨b, i, none⟩ (.int .u8 (c.toNat : Int))) b (l.set i c) := by
  intro j hj
  have hj' : j < l.length := by simpa using hj
  obtain ⟨h1, h2⟩ := h j hj'
  obtain ⟨h3, h4⟩ := h i hi
  refine ⟨?_, ?_⟩
  · by_cases e : i = j
    · subst e
      rw [World.cell?_setCell_same _ _ _ h3]
      simp
    · rw [World.cell?_setCell_other _ _ _ _ (by intro e2; injection e2 with e3 e4; exact e e4)]
      rw [h1]
      simp [e]
  · rw [World.frozen?_setCell]; exact h2
theorem BytesAt.other {w : World} {b b' i : Nat} {l : List UInt8} (h : BytesAt w b l) (hb : b' ≠ b) (v : Value) : BytesAt (w.setCell ⟨b', i, none⟩ v) b l := fun j hj => by
  obtain ⟨h1, h2⟩ := h j hj
  refine ⟨?_, by rw [World.frozen?_setCell]; exact h2⟩
  rw [World.cell?_setCell_other _ _ _ _ (by intro e; injection e with e1; exact hb e1)]
  exact h1
/-- 'string(b)', read back. -/
theorem BytesAt.back {P : Program} {w : World} {b : Nat} {l : List UInt8} (h : BytesAt w b l) (src dst e : TypeId) (n cap : Nat) (hn : l.length = n) (hs : P.underlying src = some (.slice e)) (he : P.underlying e = some (.int .u8)) (hd : P.underlying dst = some .string) :
    (convert src dst (.slice (some ⟨b, 0, none⟩) n cap)).run P w = .ok (.string (B l)) w := by
  subst hn
  refine run_convert_bytes_back w src dst e ⟨b, 0, none⟩ cap l hs he hd fun j hj => ?_
  have : (⟨b, 0, none⟩ : Addr).add j = ⟨b, j, none⟩ := by simp [Addr.add]; omega
  rw [this]
  exact (h j hj).1
/-- '[]byte(s)': the block, its bytes, and that all else is as it was. -/
theorem conv_laid {P : Program} (w : World) (src dst e : TypeId) (s : ByteArray) (hs : P.underlying src = some .string) (hd : P.underlying dst = some (.slice e)) (he : P.underlying e = some (.int .u8)) :
    ∃ (k : Nat) (w1 : World), (convert src dst (.string s)).run P w = .ok (.slice (some ⟨w.heap.size, 0, none⟩) s.size k) w1 ∧ BytesAt w1 w.heap.size s.data.toList ∧ Below w.heap.size w w1 ∧ w1.heap.size = w.heap.size + 1 :=
  ⟨_, _, run_bytes_of_string w src dst e s hs hd he, bytesAt_new w.drew s _ e, (Below.refl _ _).drew.alloc (Nat.le_refl _) _, by simp⟩
/-- Block b of w holds f's values in its first m cells, and may be written. -/
def CellsAt (w : World) (b m : Nat) (f : Nat → Value) : Prop := ∀ j, j < m → w.cell? ⟨b, j, none⟩ = some (f j) ∧ w.frozen? ⟨b, j, none⟩ = false
theorem CellsAt.below {w w' : World} {K b m : Nat} {f : Nat → Value} (h : CellsAt w b m f) (hb : Below K w w') (hK : b < K) : CellsAt w' b m f := fun j hj => by
  obtain ⟨h1, h2⟩ := h j hj
  exact ⟨(hb.cell (p := ⟨b, j, none⟩) hK).trans h1, (hb.frozen (p := ⟨b, j, none⟩) hK).trans h2⟩
theorem CellsAt.drewN {w : World} {b m : Nat} {f : Nat → Value} (h : CellsAt w b m f) (n : Nat) : CellsAt (w.drewN n) b m f := h
theorem CellsAt.grown {w w' : World} {b m : Nat} {f : Nat → Value} {row : Option Nat} (h : CellsAt w b m f) (hg : w.grownBy w' row) (hlt : b < w.heap.size) (hne : some b ≠ row) : CellsAt w' b m f := fun j hj => by
  obtain ⟨h1, h2⟩ := h j hj
  have hh := hg.block b hlt hne
  exact ⟨(World.cell?_of_block (a := ⟨b, j, none⟩) hh).trans h1, (World.frozen?_of_block (a := ⟨b, j, none⟩) hh).trans h2⟩
theorem CellsAt.other {w : World} {b b' i m : Nat} {f : Nat → Value} (h : CellsAt w b m f) (hb : b' ≠ b) (v : Value) : CellsAt (w.setCell ⟨b', i, none⟩ v) b m f := fun j hj => by
  obtain ⟨h1, h2⟩ := h j hj
  refine ⟨?_, by rw [World.frozen?_setCell]; exact h2⟩
  rw [World.cell?_setCell_other _ _ _ _ (by intro e; injection e with e1; exact hb e1)]
  exact h1
theorem CellsAt.set {w : World} {b i m : Nat} {f : Nat → Value} (h : CellsAt w b m f) (hi : i < m) (v : Value) : CellsAt (w.setCell ⟨b, i, none⟩ v) b m (fun j => if j = i then v else f j) := fun j hj => by
  obtain ⟨h1, h2⟩ := h j hj
  refine ⟨?_, by rw [World.frozen?_setCell]; exact h2⟩
  by_cases e : j = i
  · subst e
    rw [World.cell?_setCell_same _ _ _ h1]; simp
  · rw [World.cell?_setCell_other _ _ _ _ (by intro e2; injection e2 with _ e3; exact e e3.symm), h1]; simp [e]
theorem CellsAt.congr {w : World} {b m : Nat} {f g : Nat → Value} (h : CellsAt w b m f) (hfg : ∀ j, j < m → f j = g j) : CellsAt w b m g := fun j hj => by rw [← hfg j hj]; exact h j hj
theorem cells_made (w : World) (cs : Array Value) (e : TypeId) : CellsAt (w.alloc (.cells cs e)) w.heap.size cs.size (fun j => cs[j]!) := fun j hj => by
  refine ⟨?_, ?_⟩
  · have := World.cell?_alloc_mark w cs e (0, 0) j
    rw [show (w.alloc (.cells cs e)).cell? ⟨w.heap.size, j, none⟩ = _ from this]
    simp [hj]
  · have := World.frozen?_alloc_mark w cs e 0 0 j
    rw [show (w.alloc (.cells cs e)).frozen? ⟨w.heap.size, j, none⟩ = _ from this]
    simp
theorem alloc_more (w : World) (o : Obj) : (w.alloc o).heap.size = w.heap.size + 1 := by show (w.heap.push _).size = _; rw [Array.size_push]
theorem set_size (w : World) (a : Addr) (v : Value) : (w.setCell a v).heap.size = w.heap.size := by simp [World.setCell]
/-- 'make([]T, n)'. -/
theorem make_laid {P : Program} (w : World) (t e : TypeId) (i : TypeInfo) (z : Value) (sz bytes n : Nat) (ht : P.underlying t = some (.slice e)) (hi : P.info? e = some i) (hz : i.zero = some z) (hsize : i.size = sz) (hby : i.bytes = bytes)
    (hb : bytes * n ≤ 281474976710656) (h63 : n ≤ 9223372036854775807) :
    (Instr.makeSlice t (.int .i64 (n : Int)) (.int .i64 (n : Int))).run P w = .ok (.slice (some ⟨w.heap.size, 0, none⟩) n n) (w.alloc (.cells (madeCells z.cells (n * sz)) e)) ∧
      CellsAt (w.alloc (.cells (madeCells z.cells (n * sz)) e)) w.heap.size (n * sz) (fun j => z.cells[j % z.cells.size]!) := by
  subst hsize hby
  have hb' : (i.bytes : Int) * (n : Int) ≤ 281474976710656 := by
    have h : ((i.bytes * n : Nat) : Int) ≤ 281474976710656 := by omega
    rwa [Int.natCast_mul] at h
  have hr := run_make (P := P) w t e i z ht hi hz .i64 .i64 n n (by omega) (by omega) hb' (by omega)
  simp only [Int.toNat_natCast] at hr
  refine ⟨hr, fun j hj => ⟨?_, ?_⟩⟩
  · have := World.cell?_alloc_mark w (madeCells z.cells (n * i.size)) e (0, 0) j
    rw [show (w.alloc (.cells (madeCells z.cells (n * i.size)) e)).cell? ⟨w.heap.size, j, none⟩ = _ from this]
    simp [madeCells, hj]
  · have := World.frozen?_alloc_mark w (madeCells z.cells (n * i.size)) e 0 0 j
    rw [show (w.alloc (.cells (madeCells z.cells (n * i.size)) e)).frozen? ⟨w.heap.size, j, none⟩ = _ from this]
    simp
/-- A slice of one-cell elements, as a value: nil and empty, or over a block that was there. -/
def RowArg (w : World) (p : Option Addr) (xs : List Value) : Prop := ∀ j (h : j < xs.length), ∃ b off, p = some ⟨b, off, none⟩ ∧ b < w.heap.size ∧ w.cell? ⟨b, off + j, none⟩ = some xs[j]
theorem RowArg.below {w w' : World} {p : Option Addr} {xs : List Value} (h : RowArg w p xs) (hb : Below w.heap.size w w') : RowArg w' p xs := fun j hj => by
  obtain ⟨b, off, h1, h2, h3⟩ := h j hj
  exact ⟨b, off, h1, Nat.lt_of_lt_of_le h2 hb.size, (hb.cell (p := ⟨b, off + j, none⟩) h2).trans h3⟩
theorem RowArg.drewN {w : World} {p : Option Addr} {xs : List Value} (h : RowArg w p xs) (n : Nat) : RowArg (w.drewN n) p xs := h
theorem RowArg.take {w : World} {p : Option Addr} {xs : List Value} (h : RowArg w p xs) (n : Nat) : RowArg w p (xs.take n) := fun j hj => by
  have hj' : j < xs.length := by rw [List.length_take] at hj; omega
  obtain ⟨b, off, h1, h2, h3⟩ := h j hj'
  exact ⟨b, off, h1, h2, by rw [h3, List.getElem_take]⟩
theorem RowArg.of_own {w : World} {base : Nat} {e : TypeId} {v : Value} {n : Nat} {xs : List Value} (h : w.ownsRow base e 1 v n xs) : ∃ p cap, v = .slice p n cap ∧ RowArg w p xs ∧ xs.length = n ∧ n ≤ maxLen := by
  have hl : xs.length = n := by have := h.1; omega
  rcases h.2 with ⟨rfl, rfl⟩ | ⟨g, cap, cur, rfl, _, hh, hnc, hcm, _, _⟩
  · have : xs = [] := List.length_eq_zero_iff.1 hl
    subst this
    exact ⟨none, 0, rfl, fun j hj => by simp at hj, rfl, by simp⟩
  · refine ⟨some ⟨g, 0, none⟩, cap, rfl, fun j hj => ⟨g, 0, rfl, ?_, ?_⟩, hl, by omega⟩
    · rcases Nat.lt_or_ge g w.heap.size with hlt | hge
      · exact hlt
      · rw [Array.getElem?_eq_none hge] at hh; cases hh
    · rw [Nat.zero_add, h.cellAt j (by omega), List.getElem?_eq_getElem hj]
theorem own_below {w w' : World} {K base : Nat} {e : TypeId} {size : Nat} {v : Value} {n : Nat} {xs : List Value} (h : w.ownsRow base e size v n xs) (hb : Below K w w') (hK : ∀ k, v.ownBlock = some k → k < K) : w'.ownsRow base e size v n xs := by
  refine ⟨h.1, ?_⟩
  rcases h.2 with h0 | ⟨g, cap, cur, rfl, hg, hh, r⟩
  · exact .inl h0
  · exact .inr ⟨g, cap, cur, rfl, hg, (hb.block g (hK g rfl)).trans hh, r⟩
theorem own_next {w w' : World} {base : Nat} {e : TypeId} {size : Nat} {v : Value} {n : Nat} {xs : List Value} (h : w.ownsRow base e size v n xs) (hb : Below w.heap.size w w') : w'.ownsRow base e size v n xs :=
  own_below h hb fun k hk => (h.lt k hk).2
theorem own_drewN {w : World} {base : Nat} {e : TypeId} {size : Nat} {v : Value} {n : Nat} {xs : List Value} (h : w.ownsRow base e size v n xs) (k : Nat) : (w.drewN k).ownsRow base e size v n xs := h
theorem own_lower {w : World} {base base' : Nat} {e : TypeId} {size : Nat} {v : Value} {n : Nat} {xs : List Value} (h : w.ownsRow base e size v n xs) (hb : base' ≤ base) : w.ownsRow base' e size v n xs := by
  refine ⟨h.1, ?_⟩
  rcases h.2 with h0 | ⟨g, cap, cur, h1, hg, r⟩
  · exact .inl h0
  · exact .inr ⟨g, cap, cur, h1, by omega, r⟩
/-- A slice of bytes, as a value: nil and empty, or over a block that was there. -/
def BytesArg (w : World) (p : Option Addr) (l : List UInt8) : Prop := ∀ j (h : j < l.length), ∃ b off, p = some ⟨b, off, none⟩ ∧ b < w.heap.size ∧ w.cell? ⟨b, off + j, none⟩ = some (.int .u8 (l[j].toNat : Int))
/-- A contract that leaves the world alone, as a region that draws its order wants it. -/
theorem quiet {P : Program} {f : FuncId} {args : Array Value} {w : World} {n : Nat} {v : Value} (h : Calls P f args (w.drewN n) fun e w' => e = .returned v ∧ w.drewN n = w') :
    Calls P f args (w.drewN n) fun e w'' => e = .returned v ∧ ∃ m, w'' = w.drewN m := h.mono fun _ _ ⟨he, hm⟩ => ⟨he, n, hm.symm⟩
theorem later {a b c : World} (h : Below a.heap.size a b) (k : Below b.heap.size b c) : Below a.heap.size a c := h.trans (k.mono h.size)
theorem drawn_below {w w' : World} (h : ∃ m, w' = w.drewN m) : Below w.heap.size w w' := by obtain ⟨m, rfl⟩ := h; exact (Below.refl _ _).drewN m
theorem drawn_more (w : World) (a k : Nat) : ((w.drewN a).drew).drewN k = w.drewN (a + 1 + k) := by rw [World.drew_drewN, World.drewN_drewN]
theorem lt_of_cell {w : World} {a : Addr} {v : Value} (h : w.cell? a = some v) : a.block < w.heap.size := by
  rcases Nat.lt_or_ge a.block w.heap.size with hh | hh
  · exact hh
  · unfold World.cell? at h
    rw [Array.getElem?_eq_none hh] at h
    simp at h
end Go.Proofs.YtpiaplgbpjgjiaaGreatDoor.Base
