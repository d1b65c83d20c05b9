/-
  The net (layer 30): slices.reverseRange at numbers of 64 bits: the part's numbers in another order.
  Condition: the row lies in one block, one cell each.
-/
import Derived.Test.YtplfnjpoikhmbaaNtRow
open Go Go.RowKit Go.Sort
namespace Go.Proofs.Ytplfnjpoikhmbaa.Nt
open Base

set_option maxRecDepth 100000 in
set_option maxHeartbeats 4000000 in
theorem Reverse_f (blk off cap a b : Nat) (d : Array Int) (w : World) (hH : Holds U w blk off d) (hblk : blk < w.heap.size) (hab : a ≤ b) (hb : b ≤ d.size) (hsz : d.size < 4611686018427387904) :
    Calls Try.prog 37 #[.slice (some ⟨blk, off, none⟩) d.size cap, .int .i64 a, .int .i64 b] w fun e w' => e = .returned (.tuple #[]) ∧ ∃ d', RowTo blk off w w' d d' ∧ PermIn a b d d' := by
  have HH := Lib.hid hH
  clear hH
  go_enter Try.func37, Try.ntmps37
  go_wp2
  go_loopw [6, 7] (fun u v wr => ∃ (i : Nat) (jz : Int) (r : Array Int), u = .int .i64 (i : Int) ∧ v = .int .i64 jz ∧ a ≤ i ∧ i ≤ b ∧ (i : Int) + jz = (a : Int) + b - 1 ∧ RowTo blk off w wr d r ∧ PermIn a b d r) (fun u _ _ => b - (intOf u).toNat)
  case atStart => exact ⟨a, (b : Int) - 1, d, rfl, rfl, Nat.le_refl _, hab, by omega, RowTo.refl HH.out, permIn_refl _ _ _⟩
  case round =>
    obtain ⟨i, jz, r, rfl, rfl, hai, hib, hj, hr, hp⟩ := hrel
    have HR := Lib.hid (And.intro hr hp)
    by_cases hlt : (i : Int) < jz
    · obtain ⟨j, rfl⟩ : ∃ j : Nat, jz = (j : Int) := ⟨jz.toNat, by omega⟩
      obtain ⟨G, hG⟩ : ∃ G : Nat → Int, ∀ t, G t = r[t]! := ⟨fun t => r[t]!, fun _ => rfl⟩
      obtain ⟨cw, fw⟩ := row_cells (hr.holds hblk HH.out) G hG
      have hs := hr.size
      have ci := cw i (by omega)
      have cj := cw j (by omega)
      have fi := fw i (by omega)
      have fj := fw j (by omega)
      have HG := Lib.hid hG
      have t1 : 0 ≤ (i : Int) := by omega
      have t2 : 0 ≤ (j : Int) := by omega
      have t3 : (i : Int) < (d.size : Int) := by omega
      have t4 : (j : Int) < (d.size : Int) := by omega
      clear cw fw hG hr hp hs
      go_wp2
      go_region
      all_goals go_wp2
      go_roundw
      case rel => exact ⟨i + 1, (j : Int) - 1, swp r i j, by go_num, by first | rfl | go_num, by omega, by omega, by omega, HR.out.1.swap hblk (by omega) (by omega) (by rw [HG.out]) (by rw [HG.out]) |>.drew, RowTo.perm HR.out.2 hb (by omega) (by omega) (by omega) (by omega)⟩
      case measure => simp [intOf]; omega
    · clear hr hp
      go_wp2
      go_end0
      exact ⟨rfl, r, HR.out.1, HR.out.2⟩
end Go.Proofs.Ytplfnjpoikhmbaa.Nt
