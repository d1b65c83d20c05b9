/-
  The net (layer 30): slices.Sort at numbers of 64 bits without a sign: the numbers by their size.
  Conditions: the row lies in one block, one cell each; it has fewer than 65536 numbers.
-/
import Derived.Test.YtplfnjpoikhmbaaNtPdq
open Go Go.RowKit Go.Sort
namespace Go.Proofs.Ytplfnjpoikhmbaa.Nt
open Base

/-- The numbers of a list by their size. -/
def srtU (ss : List Int) : List Int := ss.mergeSort fun x y => decide (x ≤ y)
theorem sorted_is {d d' : Array Int} (hp : PermIn 0 d.size d d') (hs : SortedIn ltInt 0 d.size d') : d'.toList = srtU d.toList := by
  have := sorted_unique_holds swo (fun x y h1 h2 => Int.le_antisymm (lt_no.1 h2) (lt_no.1 h1)) d d' hp hs
  rw [this]
  unfold srtU
  congr 1
  funext x y
  rw [Bool.eq_iff_iff]
  unfold ltInt
  simp
theorem Sort_f (blk off cap : Nat) (d : Array Int) (w : World) (hH : Holds U w blk off d) (hblk : blk < w.heap.size) (hsz : d.size < 65536) :
    Calls Try.prog 28 #[.slice (some ⟨blk, off, none⟩) d.size cap] w fun e w' => e = .returned (.tuple #[]) ∧ RowTo blk off w w' d (srtU d.toList).toArray := by
  have HL := Lib.hid (Len_f d.size hsz)
  have HP := Lib.hid (fun (L : Nat) (hL : L ≤ 64) => Pdq_f d.size blk off cap 0 d.size L d w (by omega) hH hblk (Nat.zero_le _) (Nat.le_refl _) hsz hL (.inl rfl))
  have eW : IntKind.u64.wrap (d.size : Int) = (d.size : Int) := by rw [IntKind.wrap_u64]; omega
  clear hH
  go_enter Try.func28, Try.ntmps28
  go_wp2_with fail
  with_reducible refine (HL.out _).mono ?_
  rintro e w1 ⟨⟨L, rfl, hL, -⟩, rfl⟩
  have HC := Lib.hid (HP.out L (by omega))
  go_wp2_with fail
  refine HC.out.mono ?_
  rintro e w2 ⟨rfl, d', hr, hp, hs⟩
  have HE := Lib.hid (show RowTo blk off w1 w2 d (srtU d.toList).toArray by rw [← sorted_is hp hs]; exact hr)
  clear hr hp hs
  go_wp2
  go_end0
  exact ⟨rfl, HE.out⟩
/-- No numbers. -/
theorem Insert_none (w : World) : Calls Try.prog 33 #[.slice none 0 0, .int .i64 0, .int .i64 0] w fun e w' => e = .returned (.tuple #[]) ∧ w' = w := by
  go_enter Try.func33, Try.ntmps33
  go_wp2
  refine wp_loop_rounds 1 ?_
  rw [rounds_succ]
  go_wp2
  go_end0
  exact ⟨rfl, rfl⟩
theorem Pdq_none (L : Nat) (w : World) : Calls Try.prog 31 #[.slice none 0 0, .int .i64 0, .int .i64 0, .int .i64 L] w fun e w' => e = .returned (.tuple #[]) ∧ w' = w := by
  go_enter Try.func31, Try.ntmps31
  go_wp2
  refine wp_loop_rounds 1 ?_
  rw [rounds_succ]
  go_wp2_with (go_at_call 33; refine (Insert_none _).mono ?_; rintro e w' ⟨rfl, rfl⟩)
  (try simp only [Exit.inBlock, Exit.then])
  refine bodyPost_ret (results_none rfl _ _ _) rfl ?_
  exact ⟨rfl, rfl⟩
theorem Sort_none (w : World) : Calls Try.prog 28 #[.slice none 0 0] w fun e w' => e = .returned (.tuple #[]) ∧ w' = w := by
  go_enter Try.func28, Try.ntmps28
  go_wp2_with fail
  refine (Len_f 0 (by omega) _).mono ?_
  rintro e w1 ⟨⟨L, rfl, -, -⟩, rfl⟩
  go_wp2_with fail
  refine (Pdq_none L _).mono ?_
  rintro e w2 ⟨rfl, rfl⟩
  go_wp2
  go_end0
  exact ⟨rfl, rfl⟩
end Go.Proofs.Ytplfnjpoikhmbaa.Nt
