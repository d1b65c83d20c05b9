/-
  The net (layer 30): the heap's walks at numbers of 64 bits: siftDown, heapSort.
  Condition: the row lies in one block, one cell each.
-/
import Derived.Test.YtplfnjpoikhmbaaNtRow
import Derived.Deep.CutRange
import Derived.Deep.CutBlock
open Go Go.RowKit Go.Sort
namespace Go.Proofs.Ytplfnjpoikhmbaa.Nt
open Base

/-- The child that the walk goes on with. -/
def childOf (r : Array Int) (hi F root : Nat) : Nat := if 2 * root + 2 < hi ∧ ltInt r[F + (2 * root + 1)]! r[F + (2 * root + 2)]! = true then 2 * root + 2 else 2 * root + 1
theorem sift_end {hi F root : Nat} (r : Array Int) (h : hi ≤ 2 * root + 1) : siftDown ltInt hi F root r = r := by rw [siftDown, dif_pos h]
theorem sift_by {hi F root : Nat} (r : Array Int) (h : ¬ hi ≤ 2 * root + 1) : siftDown ltInt hi F root r = if ltInt r[F + root]! r[F + childOf r hi F root]! = true then siftDown ltInt hi F (childOf r hi F root) (swp r (F + root) (F + childOf r hi F root)) else r := by
  have e : F + (2 * root + 1) + 1 = F + (2 * root + 2) := by omega
  rw [siftDown, dif_neg h, e]
  unfold childOf
  by_cases h12 : 2 * root + 2 < hi ∧ ltInt r[F + (2 * root + 1)]! r[F + (2 * root + 2)]! = true
  · rw [if_pos (show (decide (2 * root + 1 + 1 < hi) && ltInt r[F + (2 * root + 1)]! r[F + (2 * root + 2)]!) = true by rw [h12.2, Bool.and_true]; exact decide_eq_true (by omega)), if_pos h12]
    by_cases h3 : ltInt r[F + root]! r[F + (2 * root + 2)]! = true
    · rw [if_neg (by simp only [h3]; decide), dif_pos h12.1, if_pos h3]
    · rw [if_pos (by simp only [Bool.not_eq_true] at h3; simp only [h3]; decide), if_neg h3]
  · rw [if_neg (show ¬ (decide (2 * root + 1 + 1 < hi) && ltInt r[F + (2 * root + 1)]! r[F + (2 * root + 2)]!) = true from fun h2 => h12 (by rw [Bool.and_eq_true, decide_eq_true_eq] at h2; exact ⟨by omega, h2.2⟩)), if_neg h12]
    by_cases h3 : ltInt r[F + root]! r[F + (2 * root + 1)]! = true
    · rw [if_neg (by simp only [h3]; decide), if_pos h3]
    · rw [if_pos (by simp only [Bool.not_eq_true] at h3; simp only [h3]; decide), if_neg h3]
theorem childOf_lt {r : Array Int} {hi F root : Nat} (h : ¬ hi ≤ 2 * root + 1) : childOf r hi F root < hi ∧ root < childOf r hi F root := by
  unfold childOf
  split
  · omega
  · omega

set_option maxRecDepth 100000 in
set_option maxHeartbeats 4000000 in
theorem Sift_f (blk off cap lo hi F : Nat) (d : Array Int) (w : World) (hH : Holds U w blk off d) (hblk : blk < w.heap.size) (hlo : lo ≤ hi) (hb : F + hi ≤ d.size) (hsz : d.size < 4611686018427387904) :
    Calls Try.prog 44 #[.slice (some ⟨blk, off, none⟩) d.size cap, .int .i64 lo, .int .i64 hi, .int .i64 F] w fun e w' => e = .returned (.tuple #[]) ∧ RowTo blk off w w' d (siftDown ltInt hi F lo d) := by
  have HH := Lib.hid hH
  clear hH
  go_enter Try.func44, Try.ntmps44
  go_wp2
  go_loopw [8] (fun u wr => ∃ (root : Nat) (r : Array Int), u = .int .i64 (root : Int) ∧ root ≤ hi ∧ RowTo blk off w wr d r ∧ siftDown ltInt hi F root r = siftDown ltInt hi F lo d) (fun u _ => hi - (intOf u).toNat)
  case atStart => exact ⟨lo, d, rfl, hlo, RowTo.refl HH.out, rfl⟩
  case round =>
    obtain ⟨root, r, rfl, hrt, hr, he⟩ := hrel
    have HR := Lib.hid hr
    have HE := Lib.hid he
    obtain ⟨G, hG⟩ : ∃ G : Nat → Int, ∀ t, G t = r[t]! := ⟨fun t => r[t]!, fun _ => rfl⟩
    obtain ⟨cw, fw⟩ := row_cells (hr.holds hblk HH.out) G hG
    have hs := hr.size
    rw [hs] at cw fw
    have HG := Lib.hid hG
    clear hr he hG hs
    by_cases h0 : hi ≤ 2 * root + 1
    · have t1 : (hi : Int) ≤ 2 * (root : Int) + 1 := by omega
      go_wp2
      go_end0
      exact ⟨rfl, by rw [← HE.out, sift_end r h0]; exact HR.out⟩
    · have t1 : ¬ (hi : Int) ≤ 2 * (root : Int) + 1 := by omega
      have HC := Lib.hid (childOf_lt (r := r) (hi := hi) (F := F) (root := root) h0)
      obtain ⟨tb, htb⟩ : ∃ tb : Bool, tb = decide (2 * root + 2 < hi ∧ ltInt r[F + (2 * root + 1)]! r[F + (2 * root + 2)]! = true) := ⟨_, rfl⟩
      have HT := Lib.hid htb
      clear htb
      go_upto_region 3 with fail
      go_cut [36] from 11 to 75 (fun c wx => c = .bool tb ∧ ∃ m : Nat, wx = wr.drewN m)
      case first =>
        by_cases h1 : 2 * root + 2 < hi
        · have t2 : 2 * (root : Int) + 1 + 1 < (hi : Int) := by omega
          have HX := Lib.hid (show tb = ltInt (G (F + 2 * root + 1)) (G (F + 2 * root + 2)) by
            rw [HT.out, HG.out, HG.out, show F + (2 * root + 1) = F + 2 * root + 1 by omega, show F + (2 * root + 2) = F + 2 * root + 2 by omega]
            simp [h1])
          go_quiet (first | (go_at_call 39; refine Calls.quiet_of_same (Less_f _ _ _)))
          go_wp2
          go_meet
          exact ⟨by rw [HX.out], nq, rfl⟩
        · have t2 : decide (2 * (root : Int) + 1 + 1 < (hi : Int)) = false := decide_eq_false (by omega)
          have HX := Lib.hid (show tb = false by rw [HT.out]; exact decide_eq_false (fun h => h1 h.1))
          go_quiet (first | (go_at_call 39; refine Calls.quiet_of_same (Less_f _ _ _)))
          go_wp2
          go_meet
          exact ⟨by rw [HX.out], nq, rfl⟩
      case rest =>
        obtain ⟨rfl, m, rfl⟩ := hcut
        go_upto_if 36 with fail
        go_cut [9] from 11 to 75 (fun c wx => c = .int .i64 ((childOf r hi F root : Nat) : Int) ∧ wx = wr.drewN m)
        case first =>
          have HX := Lib.hid (show childOf r hi F root = if tb = true then 2 * root + 2 else 2 * root + 1 by unfold childOf; rw [HT.out]; simp only [decide_eq_true_eq])
          cases tb
          · go_wp2
            go_meet
            exact ⟨by rw [HX.out]; go_num, rfl⟩
          · go_wp2
            go_meet
            exact ⟨by rw [HX.out]; go_num, rfl⟩
        case rest =>
        obtain ⟨rfl, rfl⟩ := hcut
        have HR2 := Lib.hid (HR.out.drewN m)
        have HS := Lib.hid (sift_by (hi := hi) (F := F) (root := root) r h0)
        have cw2 : ∀ t, t < d.size → (wr.drewN m).cell? ⟨blk, off + t, none⟩ = some (.int .u64 (G t)) := cw
        have fw2 : ∀ t, t < d.size → (wr.drewN m).frozen? ⟨blk, off + t, none⟩ = false := fw
        clear cw fw HR
        generalize wr.drewN m = w2 at *
        generalize childOf r hi F root = C at *
        obtain ⟨hC1, hC2⟩ := HC.out
        clear t1
        go_upto_region 5 with fail
        go_quiet (first | (go_at_call 39; refine Calls.quiet_of_same (Less_f _ _ _)))
        go_wp2
        · have hL : (!ltInt (G (F + root)) (G (F + C))) = true := by assumption
          (try simp only [Exit.inBlock, Exit.then])
          refine bodyPost_ret (results_none rfl _ _ _) rfl ?_
          refine ⟨rfl, ?_⟩
          rw [← HE.out, HS.out, if_neg (by rw [← HG.out, ← HG.out]; simpa using hL)]
          exact HR2.out.drewN nq
        · have hL : (!ltInt (G (F + root)) (G (F + C))) = false := by assumption
          have HL := Lib.hid (show ltInt r[F + root]! r[F + C]! = true by rw [← HG.out, ← HG.out]; simpa using hL)
          have HR3 := Lib.hid (HR2.out.drewN nq)
          have cw3 : ∀ t, t < d.size → (w2.drewN nq).cell? ⟨blk, off + t, none⟩ = some (.int .u64 (G t)) := cw2
          have fw3 : ∀ t, t < d.size → (w2.drewN nq).frozen? ⟨blk, off + t, none⟩ = false := fw2
          clear cw2 fw2 HR2
          generalize w2.drewN nq = w3 at *
          go_region
          all_goals go_wp2
          go_roundw
          case rel =>
            exact ⟨C, swp r (F + root) (F + C), rfl, by omega, (HR3.out.swap hblk (by omega) (by omega) (by rw [HG.out]) (by rw [HG.out])).drew, by rw [← HE.out, HS.out, if_pos HL.out]⟩
          case measure => simp [intOf]; omega
end Go.Proofs.Ytplfnjpoikhmbaa.Nt
