/-
  Small words for walks: a block that holds bytes. No program in sight but the model's own. No condition.
-/
import Derived.WalkKit
import Derived.Lib.Hide
import Derived.Deep.Draws
open Go Go.RowKit
namespace Go.Proofs.YtgnhjgpcknijnaaDoor.Base

theorem _root_.Go.RowKit.Below.drewN {B : Nat} {a w : World} (h : Below B a w) (n : Nat) : Below B a (w.drewN n) := ⟨h.os, h.tape, h.output, h.size, h.block⟩
/-- Block b of w holds the bytes l, and may be written. -/
def BytesAt (w : World) (b : Nat) (l : List UInt8) : Prop := ∀ j (h : j < l.length), w.cell? ⟨b, j, none⟩ = some (.int .u8 (l[j].toNat : Int)) ∧ w.frozen? ⟨b, j, none⟩ = false

/-- What '[]byte(s)' lays. -/
theorem bytesAt_new (w : World) (s : ByteArray) (cap : Nat) (e : TypeId) : BytesAt (w.alloc (.cells (bytesRow s cap) e ((bytesRow s cap).size, (bytesRow s cap).size + 1))) w.heap.size s.data.toList := by
  intro j h
  have h' : j < s.data.size := by simpa using h
  have hr := bytesRow_at s cap j h'
  refine ⟨?_, ?_⟩
  · rw [World.cell?_alloc_mark, hr]; simp
  · rw [World.frozen?_alloc_mark]
    have : j < (bytesRow s cap).size := by
      rcases Nat.lt_or_ge j (bytesRow s cap).size with hh | hh
      · exact hh
      · rw [Array.getElem?_eq_none hh] at hr; cases hr
    simp; omega
theorem BytesAt.drew {w : World} {b : Nat} {l : List UInt8} (h : BytesAt w b l) : BytesAt w.drew b l := h
theorem BytesAt.drewN {w : World} {b : Nat} {l : List UInt8} (h : BytesAt w b l) (n : Nat) : BytesAt (w.drewN n) b l := fun j hj => by
  obtain ⟨h1, h2⟩ := h j hj
  exact ⟨h1, h2⟩
theorem BytesAt.below {w w' : World} {B b : Nat} {l : List UInt8} (h : BytesAt w b l) (hb : Below B w w') (hlt : b < B) : BytesAt w' b l := fun j hj => by
  obtain ⟨h1, h2⟩ := h j hj
  exact ⟨(hb.cell (p := ⟨b, j, none⟩) hlt).trans h1, (hb.frozen (p := ⟨b, j, none⟩) hlt).trans h2⟩
/-- A store of one byte. -/
theorem BytesAt.set {w : World} {b : Nat} {l : List UInt8} (h : BytesAt w b l) (i : Nat) (hi : i < l.length) (c : UInt8) : BytesAt (w.setCell ⟨b, i, none⟩ (.int .u8 (c.toNat : Int))) b (l.set i c) := by
  intro j hj
  have hj' : j < l.length := by simpa using hj
  obtain ⟨h1, h2⟩ := h j hj'
  obtain ⟨h3, h4⟩ := h i hi
  refine ⟨?_, ?_⟩
  · by_cases e : i = j
    · subst e
      rw [World.cell?_setCell_same _ _ _ h3]
      simp
    · rw [World.cell?_setCell_other _ _ _ _ (by intro e2; injection e2 with e3 e4; exact e e4)]
      rw [h1]
      simp [e]
  · rw [World.frozen?_setCell]; exact h2
theorem BytesAt.other {w : World} {b b' i : Nat} {l : List UInt8} (h : BytesAt w b l) (hb : b' ≠ b) (v : Value) : BytesAt (w.setCell ⟨b', i, none⟩ v) b l := fun j hj => by
  obtain ⟨h1, h2⟩ := h j hj
  refine ⟨?_, by rw [World.frozen?_setCell]; exact h2⟩
  rw [World.cell?_setCell_other _ _ _ _ (by intro e; injection e with e1; exact hb e1)]
  exact h1
/-- 'string(b)', read back. -/
theorem BytesAt.back {P : Program} {w : World} {b : Nat} {l : List UInt8} (h : BytesAt w b l) (src dst e : TypeId) (n cap : Nat) (hn : l.length = n) (hs : P.underlying src = some (.slice e)) (he : P.underlying e = some (.int .u8)) (hd : P.underlying dst = some .string) :
    (convert src dst (.slice (some ⟨b, 0, none⟩) n cap)).run P w = .ok (.string ⟨l.toArray⟩) w := by
  subst hn
  refine run_convert_bytes_back w src dst e ⟨b, 0, none⟩ cap l hs he hd fun j hj => ?_
  have : (⟨b, 0, none⟩ : Addr).add j = ⟨b, j, none⟩ := by simp [Addr.add]; omega
  rw [this]
  exact (h j hj).1
/-- '[]byte(s)': the block, its bytes, and that all else is as it was. -/
theorem conv_laid {P : Program} (w : World) (src dst e : TypeId) (s : ByteArray) (hs : P.underlying src = some .string) (hd : P.underlying dst = some (.slice e)) (he : P.underlying e = some (.int .u8)) :
    ∃ (k : Nat) (w1 : World), (convert src dst (.string s)).run P w = .ok (.slice (some ⟨w.heap.size, 0, none⟩) s.size k) w1 ∧ BytesAt w1 w.heap.size s.data.toList ∧ Below w.heap.size w w1 ∧ w1.heap.size = w.heap.size + 1 :=
  ⟨_, _, run_bytes_of_string w src dst e s hs hd he, bytesAt_new w.drew s _ e, (Below.refl _ _).drew.alloc (Nat.le_refl _) _, by simp⟩
/-- A slice of bytes, as a value: nil and empty, or over a block that was there. -/
def BytesArg (w : World) (p : Option Addr) (l : List UInt8) : Prop := ∀ j (h : j < l.length), ∃ b off, p = some ⟨b, off, none⟩ ∧ b < w.heap.size ∧ w.cell? ⟨b, off + j, none⟩ = some (.int .u8 (l[j].toNat : Int))
/-- A contract that leaves the world alone, as a region that draws its order wants it. -/
theorem quiet {P : Program} {f : FuncId} {args : Array Value} {w : World} {n : Nat} {v : Value} (h : Calls P f args (w.drewN n) fun e w' => e = .returned v ∧ w.drewN n = w') :
    Calls P f args (w.drewN n) fun e w'' => e = .returned v ∧ ∃ m, w'' = w.drewN m := h.mono fun _ _ ⟨he, hm⟩ => ⟨he, n, hm.symm⟩
theorem lt_of_cell {w : World} {a : Addr} {v : Value} (h : w.cell? a = some v) : a.block < w.heap.size := by
  rcases Nat.lt_or_ge a.block w.heap.size with hh | hh
  · exact hh
  · unfold World.cell? at h
    rw [Array.getElem?_eq_none hh] at h
    simp at h
end Go.Proofs.YtgnhjgpcknijnaaDoor.Base
