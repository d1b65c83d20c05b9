/-
  The net (layer 30): heapSort at numbers of 64 bits.
  Condition: the row lies in one block, one cell each.
-/
import Derived.Test.YtplfnjpoikhmbaaNtSift
open Go Go.RowKit Go.Sort
namespace Go.Proofs.Ytplfnjpoikhmbaa.Nt
open Base

theorem half_up {a b : Nat} (hab : a ≤ b) : ((b : Int) - (a : Int) - 1).tdiv 2 = (((b - a - 1) / 2 + 1 : Nat) : Int) - 1 := by
  by_cases h : a = b
  · subst h
    have : ((a : Int) - (a : Int) - 1) = -1 := by omega
    rw [this]
    simp
  · rw [Int.tdiv_eq_ediv_of_nonneg (by omega)]
    omega

set_option maxRecDepth 100000 in
set_option maxHeartbeats 4000000 in
theorem Heap_f (blk off cap a b : Nat) (d : Array Int) (w : World) (hH : Holds U w blk off d) (hblk : blk < w.heap.size) (hab : a ≤ b) (hb : b ≤ d.size) (hsz : d.size < 4611686018427387904) :
    Calls Try.prog 34 #[.slice (some ⟨blk, off, none⟩) d.size cap, .int .i64 a, .int .i64 b] w fun e w' => e = .returned (.tuple #[]) ∧ RowTo blk off w w' d (heapSort ltInt d a b) := by
  have HH := Lib.hid hH
  have HA := Lib.hid (half_up hab)
  clear hH
  obtain ⟨L, hL⟩ : ∃ L : Nat, b = a + L := ⟨b - a, by omega⟩
  subst hL
  have eL : ((a + L : Nat) : Int) - (a : Int) = (L : Int) := by omega
  have eK : a + L - a = L := by omega
  rw [eL] at HA
  rw [eK] at HA
  have HZ := Lib.hid (show heapSort ltInt d a (a + L) = heapPop ltInt a L (heapBuild ltInt L a ((L - 1) / 2 + 1) d) by unfold heapSort; rw [eK])
  clear eL eK
  have eS : (a : Int) + (L : Int) - (a : Int) = (L : Int) := by omega
  have HCALL := Lib.hid (fun (lo hi : Nat) (r : Array Int) (wr : World) (hr : RowTo blk off w wr d r) (hlo : lo ≤ hi) (hh : hi ≤ L) => by
    have h := Sift_f blk off cap lo hi a r wr (hr.holds hblk HH.out) (hr.lt hblk) hlo (by rw [hr.size]; omega) (by rw [hr.size]; exact hsz)
    rw [hr.size] at h
    exact h)
  go_enter Try.func34, Try.ntmps34
  go_wp2
  go_loopw [9] (fun u wr => ∃ (k : Nat) (r : Array Int), u = .int .i64 ((k : Int) - 1) ∧ k ≤ (L - 1) / 2 + 1 ∧ RowTo blk off w wr d r ∧ heapBuild ltInt L a k r = heapBuild ltInt L a ((L - 1) / 2 + 1) d) (fun u _ => (intOf u + 1).toNat)
  case atStart => exact ⟨(L - 1) / 2 + 1, d, by rw [HA.out], Nat.le_refl _, RowTo.refl HH.out, rfl⟩
  case round =>
    obtain ⟨k, r, rfl, hk, hr, he⟩ := hrel
    have HR := Lib.hid hr
    have HE := Lib.hid he
    clear hr he
    cases k with
    | zero =>
      clear hk
      go_wp2
      go_loopw [10] (fun u w2 => ∃ (k : Nat) (q : Array Int), u = .int .i64 ((k : Int) - 1) ∧ k ≤ L ∧ RowTo blk off w w2 d q ∧ heapPop ltInt a k q = heapPop ltInt a L r) (fun u _ => (intOf u + 1).toNat)
      case atStart => exact ⟨L, r, rfl, Nat.le_refl _, HR.out, rfl⟩
      case round =>
        obtain ⟨k, q, rfl, hk, hq, he⟩ := hrel
        have HQ := Lib.hid hq
        have HF := Lib.hid he
        clear he
        cases k with
        | zero =>
          clear hq hk
          go_wp2
          go_end0
          refine ⟨rfl, ?_⟩
          rw [HZ.out, ← HE.out]
          show RowTo blk off w wr d (heapPop ltInt a L r)
          rw [← HF.out]
          exact HQ.out
        | succ k =>
          obtain ⟨G, hG⟩ : ∃ G : Nat → Int, ∀ t, G t = q[t]! := ⟨fun t => q[t]!, fun _ => rfl⟩
          obtain ⟨cw, fw⟩ := row_cells (hq.holds hblk HH.out) G hG
          rw [hq.size] at cw fw
          have HG := Lib.hid hG
          have ca := cw a (by omega)
          have fa := fw a (by omega)
          have ck := cw (a + k) (by omega)
          have fk := fw (a + k) (by omega)
          clear hG hq cw fw
          have t1 : ((k + 1 : Nat) : Int) - 1 = (k : Int) := by omega
          have t2 : (k : Int) + 1 - 1 = (k : Int) := by omega
          have t3 : 0 ≤ (k : Int) := by omega
          rcases Nat.eq_zero_or_pos k with hk0 | hkp
          · subst hk0
            go_wp2_with fail
            go_region
            all_goals go_wp2_with fail
            have HR3 := Lib.hid (HQ.out.swap hblk (i := a) (j := a + 0) (x := U (G (a + 0))) (y := U (G a)) (by omega) (by omega) (by rw [HG.out]) (by rw [HG.out])).drew
            have HC := Lib.hid (HCALL.out 0 0 _ _ HR3.out (by omega) (by omega))
            refine HC.out.mono ?_
            rintro e w1 ⟨rfl, hr1⟩
            have HR4 := Lib.hid (HR3.out.trans hblk hr1)
            clear hr1
            go_wp2
            go_roundw
            case rel => (repeat apply Exists.intro); exact ⟨⟨0, siftDown ltInt 0 a 0 (swp q a (a + 0)), rfl, by omega, HR4.out, HF.out⟩, rfl⟩
            case measure => simp [intOf]
          · have t4 : 0 < (k : Int) := by omega
            go_wp2_with fail
            go_region
            all_goals go_wp2_with fail
            have HR3 := Lib.hid (HQ.out.swap hblk (i := a) (j := a + k) (x := U (G (a + k))) (y := U (G a)) (by omega) (by omega) (by rw [HG.out]) (by rw [HG.out])).drew
            have HC := Lib.hid (HCALL.out 0 k _ _ HR3.out (by omega) (by omega))
            refine HC.out.mono ?_
            rintro e w1 ⟨rfl, hr1⟩
            have HR4 := Lib.hid (HR3.out.trans hblk hr1)
            clear hr1
            go_wp2
            go_roundw
            case rel => (repeat apply Exists.intro); exact ⟨⟨k, siftDown ltInt k a 0 (swp q a (a + k)), rfl, by omega, HR4.out, HF.out⟩, rfl⟩
            case measure => simp [intOf]
    | succ k =>
      have HC := Lib.hid (HCALL.out k L r wr HR.out (by omega) (Nat.le_refl _))
      have t1 : ((k + 1 : Nat) : Int) - 1 = (k : Int) := by omega
      have t2 : (k : Int) + 1 - 1 = (k : Int) := by omega
      have t3 : 0 ≤ (k : Int) := by omega
      go_wp2_with (go_at_call 44; (with_reducible refine HC.out.mono ?_); rintro e w1 ⟨rfl, hr1⟩)
      go_roundw
      case rel => (repeat apply Exists.intro); exact ⟨⟨k, siftDown ltInt L a k r, rfl, by omega, HR.out.trans hblk hr1, HE.out⟩, rfl⟩
      case measure => simp [intOf]
end Go.Proofs.Ytplfnjpoikhmbaa.Nt
