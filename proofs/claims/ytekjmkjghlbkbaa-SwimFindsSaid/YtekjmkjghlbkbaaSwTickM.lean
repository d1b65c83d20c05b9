/-
  Swim (layer 22): what Tick does, in plain words, and what is laid ahead of its walks. No condition.
-/
import Derived.Test.YtekjmkjghlbkbaaSwRound
open Go Go.RowKit Go.Sort
namespace Go.Proofs.Ytekjmkjghlbkbaa.Sw
open Base

def nowS (s : SwD) (now : Int) : SwD := { s with now := max s.now now }
def shut (s : SwD) : SwD := { s with open_ := false }
def askd (s : SwD) : SwD := { s with asked := true }
/-- What Tick leaves: the state s', the asks, the lost ones. -/
def TickPost (w : World) (b : Nat) (s' : SwD) (A : List AskD) (L : List Key) (e : Ending) (w' : World) : Prop := ∃ v1 v2, e = .returned (.tuple #[v1, v2]) ∧ w'.ownsRow w.heap.size 39 3 v1 A.length (A.flatMap askC) ∧ w'.ownsRow w.heap.size 9 1 v2 L.length (L.map strC) ∧ SwAt w' b s' ∧ Kept (· = b) w w'
theorem dropE_len (l : List Key) : (dropE l).length ≤ l.length := by
  cases l with
  | nil => exact Nat.le_refl _
  | cons x r => simp only [dropE]; split <;> simp
theorem tidy_len (ms : List Key) : (tidyL ms).length ≤ ms.length := by
  unfold tidyL
  have h1 := dropE_len (Lib.compact (ms.mergeSort fun x y => decide (x ≤ y)))
  have h2 := compact_len (ms.mergeSort fun x y => decide (x ≤ y))
  have h3 : (ms.mergeSort fun x y => decide (x ≤ y)).length = ms.length := List.length_mergeSort _
  omega
/-- A store into a cell that holds no string. -/
theorem StrsArg.set {w : World} {p : Option Addr} {ks : List Key} (h : StrsArg w p ks) {b i : Nat} {u : Value} (hc : w.cell? ⟨b, i, none⟩ = some u) (hu : ∀ k, u ≠ .string k) (v : Value) : StrsArg (w.setCell ⟨b, i, none⟩ v) p ks := fun j hj => by
  obtain ⟨c, o, he, hcc⟩ := h j hj
  refine ⟨c, o, he, ?_⟩
  rw [World.cell?_setCell_other _ _ _ _ (by
    intro e
    rw [e] at hc
    rw [hc] at hcc
    exact hu _ (Option.some.inj hcc))]
  exact hcc
theorem now_at {w : World} {b : Nat} {s : SwD} (h : SwAt w b s) (now : Int) : SwAt (w.setCell ⟨b, 4, none⟩ (.int .i64 (max s.now now))) b (nowS s now) := by
  refine CellsAt.congr (CellsAt.set h (i := 4) (by omega) _) fun j hj => ?_
  have : j = 0 ∨ j = 1 ∨ j = 2 ∨ j = 3 ∨ j = 4 ∨ j = 5 ∨ j = 6 ∨ j = 7 ∨ j = 8 ∨ j = 9 := by omega
  rcases this with rfl | rfl | rfl | rfl | rfl | rfl | rfl | rfl | rfl | rfl <;> rfl
theorem shut_at {w : World} {b : Nat} {s : SwD} (h : SwAt w b s) : SwAt (w.setCell ⟨b, 5, none⟩ (.bool false)) b (shut s) := by
  refine CellsAt.congr (CellsAt.set h (i := 5) (by omega) _) fun j hj => ?_
  have : j = 0 ∨ j = 1 ∨ j = 2 ∨ j = 3 ∨ j = 4 ∨ j = 5 ∨ j = 6 ∨ j = 7 ∨ j = 8 ∨ j = 9 := by omega
  rcases this with rfl | rfl | rfl | rfl | rfl | rfl | rfl | rfl | rfl | rfl <;> rfl
theorem askd_at {w : World} {b : Nat} {s : SwD} (h : SwAt w b s) : SwAt (w.setCell ⟨b, 9, none⟩ (.bool true)) b (askd s) := by
  refine CellsAt.congr (CellsAt.set h (i := 9) (by omega) _) fun j hj => ?_
  have : j = 0 ∨ j = 1 ∨ j = 2 ∨ j = 3 ∨ j = 4 ∨ j = 5 ∨ j = 6 ∨ j = 7 ∨ j = 8 ∨ j = 9 := by omega
  rcases this with rfl | rfl | rfl | rfl | rfl | rfl | rfl | rfl | rfl | rfl <;> rfl
theorem nowS_at {w : World} {b : Nat} {s : SwD} {M : Int} (h : SwAt w b s) (now : Int) (hM : M = max s.now now) : SwAt (w.setCell ⟨b, 4, none⟩ (.int .i64 M)) b (nowS s now) ∧ Kept (· = b) w (w.setCell ⟨b, 4, none⟩ (.int .i64 M)) := by
  subst hM
  exact ⟨now_at h now, kset (Kept.refl _ _)⟩
theorem no_asks (w : World) (base e sz : Nat) : w.ownsRow base e sz (.slice none 0 0) 0 [] := ⟨(Nat.zero_mul _).symm, .inl ⟨rfl, rfl⟩⟩
theorem SwAt.drewN {w : World} {b : Nat} {s : SwD} (h : SwAt w b s) (n : Nat) : SwAt (w.drewN n) b s := fun j hj => h j hj
theorem StrsArg.drewN {w : World} {p : Option Addr} {ks : List Key} (h : StrsArg w p ks) (n : Nat) : StrsArg (w.drewN n) p ks := fun j hj => h j hj
theorem kdrew {T : Nat → Prop} {a w : World} (h : Kept T a w) (n : Nat) : Kept T a (w.drewN n) := ⟨h.os, h.tape, h.output, h.size, h.block⟩
theorem shut_shut {s : SwD} (h : s.open_ = false) : shut s = s := by cases s; simp_all [shut]
theorem own_drewN {w : World} {base e sz n : Nat} {v : Value} {l : List Value} (h : w.ownsRow base e sz v n l) (k : Nat) : (w.drewN k).ownsRow base e sz v n l := h
theorem kbelow {T : Nat → Prop} {a c d : World} (h : Kept T a c) (k : Below c.heap.size c d) : Kept T a d := h.trans (Kept.of_below (T := T) k) fun _ h => .inl h
theorem own_kept {T : Nat → Prop} {w w' : World} {base : Nat} {e : TypeId} {size : Nat} {v : Value} {n : Nat} {xs : List Value} (h : w.ownsRow base e size v n xs) (hk : Kept T w w') (hT : ∀ i, T i → i < base) : w'.ownsRow base e size v n xs := by
  obtain ⟨hl, ⟨h1, h2⟩ | ⟨g, cap, cur, h1, hg, hb, r⟩⟩ := h
  · exact ⟨hl, .inl ⟨h1, h2⟩⟩
  · refine ⟨hl, .inr ⟨g, cap, cur, h1, hg, ?_, r⟩⟩
    rw [hk.block g (by rcases Nat.lt_or_ge g w.heap.size with h | h; exact h; rw [Array.getElem?_eq_none h] at hb; cases hb) (fun ht => by have := hT g ht; omega)]
    exact hb
/-- The cells of a Swim, one by one. -/
theorem SwAt.cs {w : World} {b : Nat} {s : SwD} (h : SwAt w b s) : w.cell? ⟨b, 0, none⟩ = some (.bool true) ∧ w.cell? ⟨b, 1, none⟩ = some (.int .i64 s.period) ∧ w.cell? ⟨b, 2, none⟩ = some (.int .i64 s.wait) ∧ w.cell? ⟨b, 4, none⟩ = some (.int .i64 s.now) ∧ w.cell? ⟨b, 5, none⟩ = some (.bool s.open_) ∧ w.cell? ⟨b, 6, none⟩ = some (.string (B s.target)) ∧ w.cell? ⟨b, 7, none⟩ = some (.int .u64 (s.seq : Int)) ∧ w.cell? ⟨b, 8, none⟩ = some (.int .i64 s.since) ∧ w.cell? ⟨b, 9, none⟩ = some (.bool s.asked) ∧ w.frozen? ⟨b, 4, none⟩ = false ∧ w.frozen? ⟨b, 5, none⟩ = false ∧ w.frozen? ⟨b, 9, none⟩ = false :=
  ⟨(h 0 (by omega)).1, (h 1 (by omega)).1, (h 2 (by omega)).1, (h 4 (by omega)).1, (h 5 (by omega)).1, (h 6 (by omega)).1, (h 7 (by omega)).1, (h 8 (by omega)).1, (h 9 (by omega)).1, (h 4 (by omega)).2, (h 5 (by omega)).2, (h 9 (by omega)).2⟩
end Go.Proofs.Ytekjmkjghlbkbaa.Sw
