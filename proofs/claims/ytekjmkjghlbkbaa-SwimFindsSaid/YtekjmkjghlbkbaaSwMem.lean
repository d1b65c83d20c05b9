/-
  Swim (layer 22): a Swim in memory; New, there, Got, Open. No condition.
-/
import Derived.Test.YtekjmkjghlbkbaaSwBin
import Derived.Test.YtekjmkjghlbkbaaKept
open Go Go.RowKit Go.Sort
namespace Go.Proofs.Ytekjmkjghlbkbaa.Sw
open Base

structure SwD where
  period : Int
  wait : Int
  others : Int
  now : Int
  open_ : Bool
  target : Key
  seq : Nat
  since : Int
  asked : Bool
def swCell (s : SwD) : Nat → Value
  | 0 => .bool true
  | 1 => .int .i64 s.period
  | 2 => .int .i64 s.wait
  | 3 => .int .i64 s.others
  | 4 => .int .i64 s.now
  | 5 => .bool s.open_
  | 6 => .string (B s.target)
  | 7 => .int .u64 (s.seq : Int)
  | 8 => .int .i64 s.since
  | _ => .bool s.asked
/-- A Swim at block b. -/
def SwAt (w : World) (b : Nat) (s : SwD) : Prop := CellsAt w b 10 (swCell s)
theorem kset {w0 w : World} {b i : Nat} {v : Value} (h : Kept (fun x => x = b) w0 w) : Kept (fun x => x = b) w0 (w.setCell ⟨b, i, none⟩ v) := Kept.setCell (T := fun x => x = b) h (.inl rfl) v
theorem kthen {b : Nat} {a c d : World} (h : Kept (fun x => x = b) a c) (k : Kept (fun x => x = b) c d) : Kept (fun x => x = b) a d := h.trans k fun _ h => .inl h
theorem SwAt.next {w w' : World} {b : Nat} {s : SwD} (h : SwAt w b s) (hb : Below w.heap.size w w') : SwAt w' b s := CellsAt.below h hb (lt_of_cell (h 0 (by omega)).1)
theorem SwAt.lt {w : World} {b : Nat} {s : SwD} (h : SwAt w b s) : b < w.heap.size := lt_of_cell (h 0 (by omega)).1
theorem There_no (w : World) : Calls Try.prog 13 #[.pointer none] w fun e w' => e = .returned (.bool false) ∧ w = w' := by
  go_enter Try.func13, Try.ntmps13
  go_wp2
  go_ret
  exact ⟨rfl, rfl⟩
theorem There_yes (w : World) (b : Nat) (s : SwD) (h : SwAt w b s) : Calls Try.prog 13 #[.pointer (some ⟨b, 0, none⟩)] w fun e w' => e = .returned (.bool true) ∧ w = w' := by
  have c0 : w.cell? ⟨b, 0, none⟩ = some (.bool true) := (h 0 (by omega)).1
  clear h
  go_enter Try.func13, Try.ntmps13
  go_wp2
  go_ret
  exact ⟨rfl, rfl⟩

theorem New_f (w : World) (p t o : Int) (h1 : 1 ≤ t) (h2 : t < p) (h3 : p ≤ 1048576) (h4 : 0 ≤ o) (h5 : o ≤ 8) :
    Calls Try.prog 9 #[.agg #[.int .i64 p, .int .i64 t, .int .i64 o]] w fun e w' => e = .returned (.tuple #[.pointer (some ⟨w.heap.size + 1, 0, none⟩), .int .i64 0]) ∧ SwAt w' (w.heap.size + 1) ⟨p, t, o, 0, false, [], 0, 0, false⟩ ∧ Below w.heap.size w w' := by
  go_enter Try.func9, Try.ntmps9
  go_wp2
  go_ret2
  have hz := alloc_more w (.cells #[.int .i64 p, .int .i64 t, .int .i64 o] 25)
  have hb1 : Below w.heap.size w (w.alloc (.cells #[.int .i64 p, .int .i64 t, .int .i64 o] 25)) := (Below.refl _ _).alloc (Nat.le_refl _) _
  have hc := cells_made (w.alloc (.cells #[.int .i64 p, .int .i64 t, .int .i64 o] 25)) #[.bool true, .int .i64 p, .int .i64 t, .int .i64 o, .int .i64 0, .bool false, .string ⟨#[]⟩, .int .u64 0, .int .i64 0, .bool false] 49
  rw [hz] at hc
  refine ⟨rfl, CellsAt.congr hc fun j hj => ?_, hb1.alloc hb1.size _⟩
  have : j = 0 ∨ j = 1 ∨ j = 2 ∨ j = 3 ∨ j = 4 ∨ j = 5 ∨ j = 6 ∨ j = 7 ∨ j = 8 ∨ j = 9 := by have : j < 10 := hj; omega
  rcases this with rfl | rfl | rfl | rfl | rfl | rfl | rfl | rfl | rfl | rfl <;> rfl
theorem Got_no (w : World) (b : Nat) (s : SwD) (n : Nat) (h : SwAt w b s) (hno : s.open_ = false ∨ s.seq ≠ n) : Calls Try.prog 11 #[.pointer (some ⟨b, 0, none⟩), .int .u64 (n : Int)] w fun e w' => e = .returned (.bool false) ∧ w = w' := by
  have HT := Lib.hid (There_yes w b s h)
  have c5 : w.cell? ⟨b, 5, none⟩ = some (.bool s.open_) := (h 5 (by omega)).1
  have c7 : w.cell? ⟨b, 7, none⟩ = some (.int .u64 (s.seq : Int)) := (h 7 (by omega)).1
  obtain ⟨_, _, _, _, op, _, sq, _, _⟩ := s
  simp only at c5 c7 hno
  clear h
  cases op
  · clear hno
    go_enter Try.func11, Try.ntmps11
    go_wp2_with fail
    with_reducible refine HT.out.mono ?_
    rintro e w1 ⟨rfl, rfl⟩
    go_wp2
    go_ret
    exact ⟨rfl, rfl⟩
  · have hne : sq ≠ n := hno.resolve_left (by simp)
    have t1 : ((sq : Int) == (n : Int)) = false := by simp; omega
    clear hno hne
    go_enter Try.func11, Try.ntmps11
    go_wp2_with fail
    with_reducible refine HT.out.mono ?_
    rintro e w1 ⟨rfl, rfl⟩
    go_wp2
    go_ret
    exact ⟨rfl, rfl⟩
theorem Got_nil (w : World) (n : Int) : Calls Try.prog 11 #[.pointer none, .int .u64 n] w fun e w' => e = .returned (.bool false) ∧ w = w' := by
  go_enter Try.func11, Try.ntmps11
  go_wp2_with (go_at_call 13; with_reducible refine (There_no _).mono ?_; rintro e w' ⟨rfl, rfl⟩)
  go_ret
  exact ⟨rfl, rfl⟩
theorem Open_nil (w : World) : Calls Try.prog 12 #[.pointer none] w fun e w' => e = .returned (.tuple #[.string ⟨#[]⟩, .int .u64 0, .bool false]) ∧ w = w' := by
  go_enter Try.func12, Try.ntmps12
  go_wp2_with (go_at_call 13; with_reducible refine (There_no _).mono ?_; rintro e w' ⟨rfl, rfl⟩)
  go_ret3
  exact ⟨rfl, rfl⟩
set_option maxRecDepth 100000 in
theorem Tick_nil (w : World) (now : Int) (v : Value) (d : Int) : Calls Try.prog 10 #[.pointer none, .int .i64 now, v, .int .u64 d] w fun e w' => e = .returned (.tuple #[.slice none 0 0, .slice none 0 0]) ∧ w = w' := by
  go_enter Try.func10, Try.ntmps10
  go_wp2_with (go_at_call 13; with_reducible refine (There_no _).mono ?_; rintro e w' ⟨rfl, rfl⟩)
  go_ret2
  exact ⟨rfl, rfl⟩
theorem Got_yes (w : World) (b : Nat) (s : SwD) (h : SwAt w b s) (ho : s.open_ = true) : Calls Try.prog 11 #[.pointer (some ⟨b, 0, none⟩), .int .u64 (s.seq : Int)] w fun e w' => e = .returned (.bool true) ∧ SwAt w' b { s with open_ := false } ∧ Kept (· = b) w w' := by
  have HT := Lib.hid (There_yes w b s h)
  have c5 : w.cell? ⟨b, 5, none⟩ = some (.bool s.open_) := (h 5 (by omega)).1
  have f5 : w.frozen? ⟨b, 5, none⟩ = false := (h 5 (by omega)).2
  have c7 : w.cell? ⟨b, 7, none⟩ = some (.int .u64 (s.seq : Int)) := (h 7 (by omega)).1
  have HS := Lib.hid h
  rw [ho] at c5
  clear h ho
  go_enter Try.func11, Try.ntmps11
  go_wp2_with fail
  with_reducible refine HT.out.mono ?_
  rintro e w1 ⟨rfl, rfl⟩
  go_wp2
  go_ret
  refine ⟨rfl, (CellsAt.set HS.out (i := 5) (by omega) _).congr fun j hj => ?_, kset (Kept.refl _ _)⟩
  have : j = 0 ∨ j = 1 ∨ j = 2 ∨ j = 3 ∨ j = 4 ∨ j = 5 ∨ j = 6 ∨ j = 7 ∨ j = 8 ∨ j = 9 := by omega
  rcases this with rfl | rfl | rfl | rfl | rfl | rfl | rfl | rfl | rfl | rfl <;> rfl

end Go.Proofs.Ytekjmkjghlbkbaa.Sw
