/-
  Logs (layer 8): the walks of there, told, Len, Count, Sure; and a builder's Len. No condition.
-/
import Derived.Test.YtpiaplgbpjgjiaaDoorLgMath
import Derived.Test.YtpiaplgbpjgjiaaDoorBuild
open Go Go.RowKit
namespace Go.Proofs.YtpiaplgbpjgjiaaDoor.Lg
open Base Mp Dk Frame

theorem There_y {w : World} {lb b : Nat} {L : LogD} (h : CellsAt w lb 6 (logCell b L)) : Calls Tryd.prog 28 #[.pointer (some ⟨lb, 0, none⟩)] w fun e w' => e = .returned (.bool true) ∧ w = w' := by
  have c0 := (h 0 (by omega)).1
  simp only [logCell] at c0
  clear h
  go_enter Tryd.func28, Tryd.ntmps28
  go_wp2
  go_ret
  exact ⟨rfl, rfl⟩
theorem There_n (w : World) : Calls Tryd.prog 28 #[.pointer none] w fun e w' => e = .returned (.bool false) ∧ w = w' := by
  go_enter Tryd.func28, Tryd.ntmps28
  go_wp2
  go_ret
  exact ⟨rfl, rfl⟩
theorem told_ok (L : LogD) : toldL L 0 = L := by unfold toldL; rw [if_neg (by omega)]
theorem told_full (L : LogD) : toldL L 6 = L := by unfold toldL; rw [if_neg (by omega)]
theorem Told_f {w : World} {lb b : Nat} {L : LogD} (h : CellsAt w lb 6 (logCell b L)) (c : Int) : Calls Tryd.prog 31 #[.pointer (some ⟨lb, 0, none⟩), .int .i64 c] w fun e w' => e = .returned (.int .i64 c) ∧ CellsAt w' lb 6 (logCell b (toldL L c)) ∧ Kept (fun i => i = lb) w w' := by
  have H := Lib.hid h
  have c5 := (h 5 (by omega)).1
  have f5 := (h 5 (by omega)).2
  simp only [logCell] at c5
  clear h
  by_cases h0 : c = 0
  · subst h0
    rw [told_ok]
    go_enter Tryd.func31, Tryd.ntmps31
    go_wp2
    go_ret
    exact ⟨rfl, H.out, Kept.refl _ _⟩
  by_cases h6 : c = 6
  · subst h6
    rw [told_full]
    go_enter Tryd.func31, Tryd.ntmps31
    go_wp2
    go_ret
    exact ⟨rfl, H.out, Kept.refl _ _⟩
  have q0 : (c != 0) = true := by simpa using h0
  have q6 : (c != 6) = true := by simpa using h6
  have HE := Lib.hid (show toldL L c = { L with broken := true } by unfold toldL; rw [if_pos ⟨h0, h6⟩])
  clear h0 h6
  go_enter Tryd.func31, Tryd.ntmps31
  go_wp2
  go_ret
  rw [HE.out]
  refine ⟨rfl, (CellsAt.set H.out (i := 5) (by omega) (.bool true)).congr fun j hj => ?_, Kept.setCell (T := fun i => i = lb) (Kept.refl _ w) (.inl rfl) _⟩
  have : j = 0 ∨ j = 1 ∨ j = 2 ∨ j = 3 ∨ j = 4 ∨ j = 5 := by omega
  rcases this with rfl | rfl | rfl | rfl | rfl | rfl <;> rfl
theorem LLen_f {w : World} {lb b : Nat} {L : LogD} (h : CellsAt w lb 6 (logCell b L)) : Calls Tryd.prog 12 #[.pointer (some ⟨lb, 0, none⟩)] w fun e w' => e = .returned (.int .i64 (L.size : Int)) ∧ w = w' := by
  have HT := Lib.hid (There_y h)
  have c2 := (h 2 (by omega)).1
  simp only [logCell] at c2
  clear h
  go_enter Tryd.func12, Tryd.ntmps12
  go_wp2_with fail
  with_reducible refine HT.out.mono ?_
  rintro e w1 ⟨rfl, rfl⟩
  go_wp2
  go_ret
  exact ⟨rfl, rfl⟩
theorem LCount_f {w : World} {lb b : Nat} {L : LogD} (h : CellsAt w lb 6 (logCell b L)) : Calls Tryd.prog 13 #[.pointer (some ⟨lb, 0, none⟩)] w fun e w' => e = .returned (.int .i64 (L.count : Int)) ∧ w = w' := by
  have HT := Lib.hid (There_y h)
  have c2 := (h 3 (by omega)).1
  simp only [logCell] at c2
  clear h
  go_enter Tryd.func13, Tryd.ntmps13
  go_wp2_with fail
  with_reducible refine HT.out.mono ?_
  rintro e w1 ⟨rfl, rfl⟩
  go_wp2
  go_ret
  exact ⟨rfl, rfl⟩
theorem LSure_f {w : World} {lb b : Nat} {L : LogD} (h : CellsAt w lb 6 (logCell b L)) : Calls Tryd.prog 14 #[.pointer (some ⟨lb, 0, none⟩)] w fun e w' => e = .returned (.int .i64 (L.sure : Int)) ∧ w = w' := by
  have HT := Lib.hid (There_y h)
  have c2 := (h 4 (by omega)).1
  simp only [logCell] at c2
  clear h
  go_enter Tryd.func14, Tryd.ntmps14
  go_wp2_with fail
  with_reducible refine HT.out.mono ?_
  rintro e w1 ⟨rfl, rfl⟩
  go_wp2
  go_ret
  exact ⟨rfl, rfl⟩
theorem LLen_nil (w : World) : Calls Tryd.prog 12 #[.pointer none] w fun e w' => e = .returned (.int .i64 0) ∧ w = w' := by
  go_enter Tryd.func12, Tryd.ntmps12
  go_wp2_with (go_at_call 28; with_reducible refine (There_n _).mono ?_; rintro e w' ⟨rfl, rfl⟩)
  go_ret
  exact ⟨rfl, rfl⟩
theorem LCount_nil (w : World) : Calls Tryd.prog 13 #[.pointer none] w fun e w' => e = .returned (.int .i64 0) ∧ w = w' := by
  go_enter Tryd.func13, Tryd.ntmps13
  go_wp2_with (go_at_call 28; with_reducible refine (There_n _).mono ?_; rintro e w' ⟨rfl, rfl⟩)
  go_ret
  exact ⟨rfl, rfl⟩
theorem LSure_nil (w : World) : Calls Tryd.prog 14 #[.pointer none] w fun e w' => e = .returned (.int .i64 0) ∧ w = w' := by
  go_enter Tryd.func14, Tryd.ntmps14
  go_wp2_with (go_at_call 28; with_reducible refine (There_n _).mono ?_; rintro e w' ⟨rfl, rfl⟩)
  go_ret
  exact ⟨rfl, rfl⟩
theorem LAppend_nil (w : World) (v : Value) : Calls Tryd.prog 10 #[.pointer none, v] w fun e w' => e = .returned (.int .i64 1) ∧ w = w' := by
  go_enter Tryd.func10, Tryd.ntmps10
  go_wp2_with (go_at_call 28; with_reducible refine (There_n _).mono ?_; rintro e w' ⟨rfl, rfl⟩)
  go_ret
  exact ⟨rfl, rfl⟩
theorem LSync_nil (w : World) : Calls Tryd.prog 11 #[.pointer none] w fun e w' => e = .returned (.int .i64 1) ∧ w = w' := by
  go_enter Tryd.func11, Tryd.ntmps11
  go_wp2_with (go_at_call 28; with_reducible refine (There_n _).mono ?_; rintro e w' ⟨rfl, rfl⟩)
  go_ret
  exact ⟨rfl, rfl⟩
theorem LOpen_nil (w : World) (v : Value) : Calls Tryd.prog 9 #[.pointer none, v] w fun e w' => e = .returned (.tuple #[.pointer none, .slice none 0 0, .int .i64 1]) ∧ w = w' := by
  go_enter Tryd.func9, Tryd.ntmps9
  go_wp2_with (go_at_call 20; with_reducible refine (Read_nil _ _).mono ?_; rintro e w' ⟨rfl, rfl⟩)
  go_ret3
  exact ⟨rfl, rfl⟩
/-- A builder's String, with what Len will look at. -/
theorem BString_f {K b : Nat} {l : List UInt8} {w : World} (h : Lib.IsBuilder 61 5 K b (Lib.byteCells l) w) (h0 : l ≠ []) :
    Calls Tryd.prog 32 #[.pointer (some ⟨b, 0, none⟩)] w fun e w' => e = .returned (.string ⟨l.toArray⟩) ∧ (∃ q cp, w'.cell? ⟨b, 1, none⟩ = some (.slice q l.length cp)) ∧ Below K w w' := by
  refine (Any.Builder_String_f Bld.lays169 Bld.extra169 K b l w (Lib.IsBuilderF.of h) h0).mono ?_
  rintro e w' ⟨he, hf, hb⟩
  refine ⟨he, ?_, hb⟩
  obtain ⟨p, v, hv, ho⟩ : ∃ p v, w'.heap[b]? = some (.cells #[p, v] 61 (0, 0)) ∧ w'.ownsRowF K 5 1 v (Lib.byteCells l).length (Lib.byteCells l) := by
    rcases hf with ⟨_, v, h1, h2, _⟩ | ⟨_, v, h1, h2, _⟩
    · exact ⟨_, v, h1, h2⟩
    · exact ⟨_, v, h1, h2⟩
  rw [Lib.byteCells_length] at ho
  obtain ⟨_, ⟨rfl, h2⟩ | ⟨g, cap, cur, fz, rfl, _⟩⟩ := ho
  · exact ⟨none, 0, by rw [h2]; simp [World.cell?, hv]⟩
  · exact ⟨_, cap, by simp [World.cell?, hv]; rfl⟩
theorem BLen_c {b n cp : Nat} {q : Option Addr} {w : World} (c1 : w.cell? ⟨b, 1, none⟩ = some (.slice q n cp)) : Calls Tryd.prog 33 #[.pointer (some ⟨b, 0, none⟩)] w fun e w' => e = .returned (.int .i64 (n : Int)) ∧ w = w' := by
  go_enter Tryd.func33, Tryd.ntmps33
  go_wp2
  go_ret
  exact ⟨rfl, rfl⟩
end Go.Proofs.YtpiaplgbpjgjiaaDoor.Lg
