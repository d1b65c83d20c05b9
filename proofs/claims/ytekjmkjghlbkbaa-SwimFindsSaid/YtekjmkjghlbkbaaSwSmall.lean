/-
  Swim (layer 22): tidy and Tick at nil, Open at an open question, Conf; what a row of one ask, of one name, and of none is. No condition.
-/
import Derived.Test.YtekjmkjghlbkbaaSwPlain
open Go Go.RowKit Go.Sort
namespace Go.Proofs.Ytekjmkjghlbkbaa.Sw
open Base

theorem Tidy_nil (w : World) : Calls Try.prog 14 #[.slice none 0 0] w fun e w' => e = .returned (.slice none 0 0) ∧ w = w' := by
  have H1 := Lib.hid (Try.slices_Clone_string_nil 0 0 w)
  have H2 := Lib.hid (Try.slices_Sort_string_none none 0 w)
  have H3 := Lib.hid (Try.slices_Compact_string_empty none 0 w)
  go_enter Try.func14, Try.ntmps14
  go_wp2_with fail
  with_reducible refine H1.out.mono ?_
  rintro e w1 ⟨rfl, rfl⟩
  go_wp2_with fail
  with_reducible refine H2.out.mono ?_
  rintro e w1 ⟨rfl, rfl⟩
  go_wp2_with fail
  with_reducible refine H3.out.mono ?_
  rintro e w1 ⟨rfl, rfl⟩
  go_wp2
  go_ret
  exact ⟨rfl, rfl⟩
set_option maxRecDepth 100000 in
/-- Tick where nobody is there, of no question. -/
theorem Tick_none (w : World) (b : Nat) (s : SwD) (now : Int) (d : Int) (h : SwAt w b s) (ho : s.open_ = false) (hnow : -9223372036854775808 ≤ now ∧ now ≤ 9223372036854775807) (hsn : -9223372036854775808 ≤ s.now ∧ s.now ≤ 9223372036854775807) :
    Calls Try.prog 10 #[.pointer (some ⟨b, 0, none⟩), .int .i64 now, .slice none 0 0, .int .u64 d] w fun e w' => e = .returned (.tuple #[.slice none 0 0, .slice none 0 0]) ∧ SwAt w' b (nowS s now) ∧ Kept (fun x => x = b) w w' := by
  have HT := Lib.hid (There_yes w b s h)
  have HS := Lib.hid h
  obtain ⟨c0, c1, c2, c4, c5, c6, c7, c8, c9, f4, f5, f9⟩ := h.cs
  have hlt := h.lt
  obtain ⟨M, hM⟩ : ∃ M : Int, M = max s.now now := ⟨_, rfl⟩
  have hMb : -9223372036854775808 ≤ M ∧ M ≤ 9223372036854775807 := by omega
  have hMx : max s.now now = M := hM.symm
  have HM := Lib.hid hM
  clear h hM
  go_enter Try.func10, Try.ntmps10
  go_wp2_with fail
  with_reducible refine HT.out.mono ?_
  rintro e w1 ⟨rfl, rfl⟩
  clear HT
  go_wp2_with fail
  have hs1 := nowS_at HS.out now HM.out
  clear c0 c1 c2 c4 c5 c6 c7 c8 c9 f4 f5 f9
  with_reducible refine (Tidy_nil _).mono ?_
  rintro e w2 ⟨rfl, hw⟩
  subst hw
  have HS2 := Lib.hid hs1.1
  have HK2 := Lib.hid hs1.2
  clear hs1 HS HM hMx hlt
  generalize w.setCell ⟨b, 4, none⟩ (.int .i64 M) = w2 at *
  obtain ⟨c0, c1, c2, c4, c5, c6, c7, c8, c9, f4, f5, f9⟩ := HS2.out.cs
  have hlt2 : b < w2.heap.size := HS2.out.lt
  simp only [nowS] at c0 c1 c2 c4 c5 c6 c7 c8 c9
  rw [ho] at c5
  go_wp2_with fail
  go_quiet (fail)
  go_wp2
  go_ret2
  exact ⟨rfl, HS2.out.drewN _, kdrew HK2.out _⟩
theorem Open_yes (w : World) (b : Nat) (s : SwD) (h : SwAt w b s) (ho : s.open_ = true) : Calls Try.prog 12 #[.pointer (some ⟨b, 0, none⟩)] w fun e w' => e = .returned (.tuple #[.string (B s.target), .int .u64 (s.seq : Int), .bool true]) ∧ ∃ n, w' = w.drewN n := by
  have HT := Lib.hid (There_yes w b s h)
  obtain ⟨c0, c1, c2, c4, c5, c6, c7, c8, c9, f4, f5, f9⟩ := h.cs
  rw [ho] at c5
  clear h
  go_enter Try.func12, Try.ntmps12
  go_wp2_with fail
  with_reducible refine HT.out.mono ?_
  rintro e w1 ⟨rfl, rfl⟩
  go_wp2_with fail
  go_quiet (fail)
  go_wp2
  go_ret3
  exact ⟨rfl, _, rfl⟩
theorem conf_eq (p t o : Nat) : ((p : Int) % 12 + 2 = ((p % 12 + 2 : Nat) : Int)) ∧ (1 + (t : Int) % ((p : Int) % 12 + 2 - 1) = ((1 + t % (p % 12 + 1) : Nat) : Int)) ∧ ((o : Int) % 4 = ((o % 4 : Nat) : Int)) := by
  refine ⟨by omega, ?_, by omega⟩
  rw [show (p : Int) % 12 + 2 - 1 = ((p % 12 + 1 : Nat) : Int) by omega]
  push_cast
  rfl
theorem Conf_f (w : World) (p t o : Nat) (hp : p < 256) (ht : t < 256) (ho : o < 256) :
    Calls Try.prog 7 #[.int .u8 (p : Int), .int .u8 (t : Int), .int .u8 (o : Int)] w fun e w' => e = .returned (.agg #[.int .i64 ((p % 12 + 2 : Nat) : Int), .int .i64 ((1 + t % (p % 12 + 1) : Nat) : Int), .int .i64 ((o % 4 : Nat) : Int)]) ∧ Below w.heap.size w w' := by
  obtain ⟨h1, h2, h3⟩ := conf_eq p t o
  have m0 : 0 ≤ (t : Int) % ((p : Int) % 12 + 2 - 1) := Int.emod_nonneg _ (by omega)
  have m1 : (t : Int) % ((p : Int) % 12 + 2 - 1) < (p : Int) % 12 + 2 - 1 := Int.emod_lt_of_pos _ (by omega)
  have H := Lib.hid (And.intro h1 (And.intro h2 h3))
  clear h1 h2 h3
  go_enter Try.func7, Try.ntmps7
  go_wp2_with fail
  rw [H.out.1, H.out.2.2]
  refine bodyPost_ret (v := .agg #[.int .i64 ((p % 12 + 2 : Nat) : Int), .int .i64 ((1 + t % (p % 12 + 1) : Nat) : Int), .int .i64 ((o % 4 : Nat) : Int)]) (by
    simp [results, Try.results7, go_sem]
    rw [show (p : Int) % 12 + 2 - 1 = (p : Int) % 12 + 1 by omega]) rfl ?_
  exact ⟨rfl, (Below.refl _ _).alloc (Nat.le_refl _) _⟩
end Go.Proofs.Ytekjmkjghlbkbaa.Sw
