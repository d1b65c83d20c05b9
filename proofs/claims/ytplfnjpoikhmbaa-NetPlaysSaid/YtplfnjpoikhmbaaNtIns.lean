/-
  The net (layer 30): the small sort at numbers of 64 bits without a sign.
  Condition: the row lies in one block, from a cell on, one cell each.
-/
import Derived.Test.YtplfnjpoikhmbaaNtLess
import Derived.Test.YtplfnjpoikhmbaaKept
open Go Go.RowKit Go.Sort
namespace Go.Proofs.Ytplfnjpoikhmbaa.Nt
open Base

abbrev U : Int → Value := Value.int .u64

set_option maxRecDepth 100000 in
set_option maxHeartbeats 4000000 in
theorem Insert_f (blk off cap a b : Nat) (d : Array Int) (w : World) (hH : Holds U w blk off d) (hab : a ≤ b) (hb : b ≤ d.size) (hsz : d.size < 4611686018427387904) :
    Calls Try.prog 33 #[.slice (some ⟨blk, off, none⟩) d.size cap, .int .i64 a, .int .i64 b] w fun e w' => e = .returned (.tuple #[]) ∧ ∃ n, w' = putRow U (Sort.ahead w n) blk off (insertionSort ltInt d a b) := by
  go_enter Try.func33, Try.ntmps33
  go_wp2
  go_loopw [6] (fun u wr => ∃ (i n : Nat) (r : Array Int), u = .int .i64 (i : Int) ∧ a + 1 ≤ i ∧ i ≤ b + 1 ∧ r.size = d.size ∧ wr = putRow U (Sort.ahead w n) blk off r ∧ insOuter ltInt a b i r = insOuter ltInt a b (a + 1) d) (fun u _ => b + 1 - (intOf u).toNat)
  case atStart => exact ⟨a + 1, 0, d, by go_num, Nat.le_refl _, by omega, rfl, (putRow_self _ _ _ _ _ hH).symm, rfl⟩
  case round =>
    obtain ⟨i, n, r, rfl, hai, hib, hsr, hwr, ho⟩ := hrel
    have HO := Lib.hid ho
    clear ho
    by_cases hlt : i < b
    · have t1 : (i : Int) < (b : Int) := by omega
      go_wp2
      go_loopw [7] (fun u wy => ∃ (j m : Nat) (q : Array Int), u = .int .i64 (j : Int) ∧ a ≤ j ∧ j ≤ i ∧ q.size = d.size ∧ wy = putRow U (Sort.ahead w m) blk off q ∧ insInner ltInt a j q = insInner ltInt a i r) (fun u _ => (intOf u).toNat)
      case atStart => exact ⟨i, n, r, rfl, by omega, Nat.le_refl _, hsr, rfl, rfl⟩
      case round =>
        obtain ⟨j, m, q, rfl, haj, hji, hsq, hw2, hi2⟩ := hrel
        have HW := Lib.hid hw2
        have HI := Lib.hid hi2
        have HP := Lib.hid hH
        have hlen : q.size = d.size := hsq
        clear hi2
        have OUT := Lib.hid (show (j ≤ a ∨ ltInt q[j]! q[j - 1]! = false) → insOuter ltInt a b (i + 1) q = insOuter ltInt a b (a + 1) d from fun h => by
          rw [← HO.out, insOuter_go _ _ _ _ _ hlt, ← HI.out, insInner_stop _ _ _ _ h])
        have t2 : 0 ≤ (j : Int) := by omega
        by_cases hja : a < j
        · obtain ⟨x, hx⟩ : ∃ x, x = q[j]! := ⟨_, rfl⟩
          obtain ⟨y, hy⟩ : ∃ y, y = q[j - 1]! := ⟨_, rfl⟩
          have cx : wr.cell? ⟨blk, off + j, none⟩ = some (.int .u64 x) := by
            rw [hw2, hx]; exact cell?_putRow _ _ _ _ d q (holds_ahead _ _ _ _ _ _ hH) hsq j (by omega)
          obtain ⟨k, rfl⟩ : ∃ k, j = k + 1 := ⟨j - 1, by omega⟩
          have cy : wr.cell? ⟨blk, off + k, none⟩ = some (.int .u64 y) := by
            rw [hw2, hy]; exact cell?_putRow _ _ _ _ d q (holds_ahead _ _ _ _ _ _ hH) hsq k (by omega)
          have fx : wr.frozen? ⟨blk, off + (k + 1), none⟩ = false := by
            rw [hw2, frozen?_putRow]; exact ((holds_ahead _ _ m _ _ _ hH) (k + 1) (by omega)).2
          have fy : wr.frozen? ⟨blk, off + k, none⟩ = false := by
            rw [hw2, frozen?_putRow]; exact ((holds_ahead _ _ m _ _ _ hH) k (by omega)).2
          have HXY := Lib.hid (And.intro hx hy)
          have t3 : ((k + 1 : Nat) : Int) > (a : Int) := by omega
          have t4 : (a : Int) < ((k + 1 : Nat) : Int) := by omega
          have t5 : ((k + 1 : Nat) : Int) - 1 = (k : Int) := by omega
          have t6 : 0 ≤ (k : Int) := by omega
          have t7 : (k : Int) < (d.size : Int) := by omega
          have t8 : ((k + 1 : Nat) : Int) < (d.size : Int) := by omega
          have t9 : decide ((a : Int) < (k : Int) + 1) = true := by simp; omega
          have t10 : (k : Int) + 1 - 1 = (k : Int) := by omega
          have t11 : (k : Int) + 1 < (d.size : Int) := by omega
          have t12 : 0 ≤ (k : Int) + 1 := by omega
          clear hx hy hw2 hH
          go_wp2
          go_quiet (first | (go_at_call 39; refine Calls.quiet_of_same (Less_f _ _ _)))
          generalize hlv : ltInt x y = lv at *
          cases lv with
          | false =>
            go_wp2
            go_roundw
            case rel => exact ⟨i + 1, m + nq, q, by go_num, by omega, by omega, hsq, by rw [HW.out]; exact putRow_drewN _ _ _ _ _ _ _, OUT.out (.inr (by rw [← HXY.out.1]; exact HXY.out.2 ▸ hlv))⟩
            case measure => simp [intOf]; omega
          | true =>
            go_wp2
            go_region
            all_goals go_wp2
            go_roundw
            case rel =>
              have e1 : x = q[k + 1]! := HXY.out.1
              have e2 : y = q[k]! := HXY.out.2
              exact ⟨k, m + (nq + 1), swp q (k + 1) k, rfl, by omega, by omega, by rw [size_swp]; exact hsq,
                by rw [e1, e2, HW.out]; exact swap_worldA U w m (nq + 1) blk off q (k + 1) k (by omega) (by omega),
                by rw [← HI.out]; exact (insInner_go ltInt a (k + 1) q hja (by show ltInt q[k + 1]! q[k]! = true; rw [← e1, ← e2]; exact hlv)).symm⟩
            case measure => simp [intOf]
        · have t3 : decide ((a : Int) < (j : Int)) = false := by simp; omega
          have t4 : ¬ (a : Int) < (j : Int) := by omega
          clear hw2 hH
          go_wp2
          go_quiet (first | (go_at_call 39; refine Calls.quiet_of_same (Less_f _ _ _)))
          go_wp2
          go_roundw
          case rel => exact ⟨i + 1, m + nq, q, by go_num, by omega, by omega, hsq, by rw [HW.out]; exact putRow_drewN _ _ _ _ _ _ _, OUT.out (.inl (by omega))⟩
          case measure => simp [intOf]; omega
    · have t1 : ¬ (i : Int) < (b : Int) := by omega
      go_wp2
      go_end0
      exact ⟨rfl, n, by unfold insertionSort; rw [← HO.out, insOuter_stop _ _ _ _ _ hlt]⟩
end Go.Proofs.Ytplfnjpoikhmbaa.Nt
