/-
  The net (layer 30): the sort's partial insertion at numbers of 64 bits.
  Condition: the row lies in one block, one cell each.
-/
import Derived.Test.YtplfnjpoikhmbaaNtRow
import Derived.Deep.CutRange
open Go Go.RowKit Go.Sort
namespace Go.Proofs.Ytplfnjpoikhmbaa.Nt
open Base

section
variable (r : Array Int) (b i j : Nat)
theorem sorted_go (h : (decide (i < b) && !ltInt r[i]! r[i - 1]!) = true) : scanSorted ltInt r b i = scanSorted ltInt r b (i + 1) := by rw [scanSorted, if_pos h]
theorem sorted_end (h : (decide (i < b) && !ltInt r[i]! r[i - 1]!) = false) : scanSorted ltInt r b i = i := by rw [scanSorted, if_neg (by simp [h])]
theorem down_stop (h : ltInt r[j + 1]! r[j]! = false) : shiftDown ltInt (j + 1) r = r := by rw [shiftDown, h]; rfl
theorem down_on (h : ltInt r[j + 1]! r[j]! = true) : shiftDown ltInt (j + 1) r = shiftDown ltInt j (swp r (j + 1) j) := by rw [shiftDown, h]; rfl
theorem up_out (h : ¬ j < b) : shiftUp ltInt b j r = r := by rw [shiftUp, if_neg h]
theorem up_stop (h0 : j < b) (h : ltInt r[j]! r[j - 1]! = false) : shiftUp ltInt b j r = r := by rw [shiftUp, if_pos h0, h]; rfl
theorem up_on (h0 : j < b) (h : ltInt r[j]! r[j - 1]! = true) : shiftUp ltInt b j r = shiftUp ltInt b (j + 1) (swp r j (j - 1)) := by rw [shiftUp, if_pos h0, h]; rfl
end
theorem par_by (a b s i : Nat) (r : Array Int) {i2 : Nat} (hi : i2 = scanSorted ltInt r b i) : partialIns ltInt a b (s + 1) i r =
    if i2 = b then (r, true) else if b - a < 50 then (r, false) else
      partialIns ltInt a b s i2 (if b - i2 ≥ 2 then shiftUp ltInt b (i2 + 1) (if i2 - a ≥ 2 then shiftDown ltInt (i2 - 1) (swp r i2 (i2 - 1)) else swp r i2 (i2 - 1)) else (if i2 - a ≥ 2 then shiftDown ltInt (i2 - 1) (swp r i2 (i2 - 1)) else swp r i2 (i2 - 1))) := by
  subst hi
  rw [partialIns]
theorem scanSorted_ge (r : Array Int) (b : Nat) : ∀ (n i : Nat), b - i ≤ n → i ≤ b → i ≤ scanSorted ltInt r b i ∧ scanSorted ltInt r b i ≤ b := by
  intro n
  induction n with
  | zero =>
    intro i h1 h2
    rw [sorted_end r b i (by simp; omega)]
    exact ⟨Nat.le_refl _, h2⟩
  | succ n ih =>
    intro i h1 h2
    cases h : (decide (i < b) && !ltInt r[i]! r[i - 1]!)
    · rw [sorted_end r b i h]; exact ⟨Nat.le_refl _, h2⟩
    · rw [sorted_go r b i h]
      have h3 : i < b := by simp at h; exact h.1
      have := ih (i + 1) (by omega) (by omega)
      omega

set_option maxRecDepth 100000 in
set_option maxHeartbeats 16000000 in
theorem Partial_f (blk off cap a b : Nat) (d : Array Int) (w : World) (hH : Holds U w blk off d) (hblk : blk < w.heap.size) (hab : a < b) (hb : b ≤ d.size) (hsz : d.size < 4611686018427387904) :
    Calls Try.prog 38 #[.slice (some ⟨blk, off, none⟩) d.size cap, .int .i64 a, .int .i64 b] w fun e w' => e = .returned (.bool (partialInsertionSort ltInt d a b).2) ∧ RowTo blk off w w' d (partialInsertionSort ltInt d a b).1 := by
  have HH := Lib.hid hH
  have HZ := Lib.hid (show partialInsertionSort ltInt d a b = partialIns ltInt a b 5 (a + 1) d from rfl)
  generalize partialInsertionSort ltInt d a b = R at *
  have HR0 := Lib.hid (RowTo.refl hH)
  clear hH
  go_enter Try.func38, Try.ntmps38
  go_wp2
  go_loopw [7, 8] (fun u v wr => ∃ (i s : Nat) (r : Array Int), u = .int .i64 (i : Int) ∧ v = .int .i64 (5 - (s : Int)) ∧ a < i ∧ i ≤ b ∧ s ≤ 5 ∧ RowTo blk off w wr d r ∧ R = partialIns ltInt a b s i r) (fun _ v _ => (5 - intOf v).toNat)
  case atStart => exact ⟨a + 1, 5, d, by go_num, rfl, by omega, by omega, Nat.le_refl _, HR0.out, HZ.out⟩
  case round =>
    clear HR0 HZ
    obtain ⟨i, s, r, rfl, rfl, hai, hib, hs, hr, he⟩ := hrel
    have HR := Lib.hid hr
    have HE := Lib.hid he
    clear hr he
    cases s with
    | zero =>
      go_wp2
      go_ret
      rw [HE.out]
      exact ⟨rfl, HR.out⟩
    | succ s =>
      obtain ⟨G, hG⟩ : ∃ G : Nat → Int, ∀ t, G t = r[t]! := ⟨fun t => r[t]!, fun _ => rfl⟩
      obtain ⟨cw, -⟩ := row_cells (HR.out.holds hblk HH.out) G hG
      rw [HR.out.size] at cw
      have HG := Lib.hid hG
      have t0 : (5 : Int) - ((s + 1 : Nat) : Int) < 5 := by omega
      have t0' : (5 : Int) - ((s : Int) + 1) < 5 := by omega
      clear hG
      generalize wr = W1 at *
      go_wp2
      go_loopw [7] (fun u w1 => ∃ (k n1 : Nat), u = .int .i64 (k : Int) ∧ i ≤ k ∧ k ≤ b ∧ w1 = W1.drewN n1 ∧ scanSorted ltInt r b k = scanSorted ltInt r b i) (fun u _ => b - (intOf u).toNat)
      case atStart => exact ⟨i, 0, rfl, Nat.le_refl _, hib, rfl, rfl⟩
      case round =>
        obtain ⟨k1, m1, rfl, hlo, hhi, hw1, hsc⟩ := hrel
        obtain ⟨k, rfl⟩ : ∃ k, k1 = k + 1 := ⟨k1 - 1, by omega⟩
        have HS := Lib.hid hsc
        have cx : ∀ t, t < d.size → wr.cell? ⟨blk, off + t, none⟩ = some (.int .u64 (G t)) := fun t ht => by rw [hw1]; exact cw t ht
        have HV := Lib.hid hw1
        clear hw1 hsc
        obtain ⟨tb, htb⟩ : ∃ tb : Bool, tb = (decide (k + 1 < b) && !ltInt (G (k + 1)) (G k)) := ⟨_, rfl⟩
        have HT := Lib.hid htb
        have t2 : ((k + 1 : Nat) : Int) - 1 = (k : Int) := by omega
        have t3 : (k : Int) + 1 - 1 = (k : Int) := by omega
        have t4 : 0 ≤ (k : Int) := by omega
        clear htb
        go_upto_region 5 with fail
        go_cut [32] from 17 to 34 (fun c wx => c = .bool tb ∧ ∃ n : Nat, wx = wr.drewN n)
        case first =>
          by_cases hle : k + 1 < b
          · have t1 : ((k + 1 : Nat) : Int) < (b : Int) := by omega
            have t5 : (k : Int) + 1 < (b : Int) := by omega
            have t6 : (k : Int) + 1 < (d.size : Int) := by omega
            have t7 : (k : Int) < (d.size : Int) := by omega
            have t8 : 0 ≤ (k : Int) + 1 := by omega
            have c1 := cx (k + 1) (by omega)
            have c0 := cx k (by omega)
            have HX := Lib.hid (show tb = !ltInt (G (k + 1)) (G k) by rw [HT.out]; simp [hle])
            clear cx cw
            go_quiet (first | (go_at_call 39; refine Calls.quiet_of_same (Less_f _ _ _)))
            go_wp2
            go_meet
            exact ⟨by rw [HX.out], nq, rfl⟩
          · have t1 : decide (((k + 1 : Nat) : Int) < (b : Int)) = false := decide_eq_false (by omega)
            have t5 : decide ((k : Int) + 1 < (b : Int)) = false := decide_eq_false (by omega)
            have HX := Lib.hid (show tb = false by rw [HT.out]; simp [hle])
            go_quiet (first | (go_at_call 39; refine Calls.quiet_of_same (Less_f _ _ _)))
            go_wp2
            go_meet
            exact ⟨by rw [HX.out], nq, rfl⟩
        case rest =>
        obtain ⟨rfl, n, rfl⟩ := hcut
        have HW := Lib.hid (show wr.drewN n = W1.drewN (m1 + n) by rw [HV.out, World.drewN_drewN])
        clear cx HV
        generalize wr.drewN n = w2 at *
        cases tb with
        | true =>
          have HP := Lib.hid (show k + 1 < b ∧ (!ltInt (G (k + 1)) (G k)) = true by have := HT.out.symm; rw [Bool.and_eq_true, decide_eq_true_eq] at this; exact this)
          have HT2 := Lib.hid (show (decide (k + 1 < b) && !ltInt r[k + 1]! r[k + 1 - 1]!) = true by have := HT.out.symm; rw [HG.out, HG.out] at this; exact this)
          go_wp2
          go_roundw
          case rel => first | exact ⟨k + 1 + 1, m1 + n, by go_num, by omega, by have := HP.out.1; omega, HW.out, (sorted_go r b (k + 1) HT2.out).symm.trans HS.out⟩ | ((repeat apply Exists.intro); exact ⟨⟨k + 1 + 1, m1 + n, by go_num, by omega, by have := HP.out.1; omega, HW.out, (sorted_go r b (k + 1) HT2.out).symm.trans HS.out⟩, rfl⟩)
          case measure => have := HP.out.1; simp [intOf]; omega
        | false =>
          have HI := Lib.hid (show k + 1 = scanSorted ltInt r b i by
            rw [← HS.out]
            exact (sorted_end r b (k + 1) (by have := HT.out.symm; rw [HG.out, HG.out] at this; exact this)).symm)
          have HR2 := Lib.hid (show RowTo blk off w w2 d r by rw [HW.out]; exact HR.out.drewN _)
          have HE2 := Lib.hid (HE.out.trans (par_by a b s i r HI.out))
          clear HT HS HE HR cw HW
          by_cases hkb : k + 1 = b
          · have t1 : ((k : Int) + 1) = (b : Int) := by omega
            have HKB := Lib.hid hkb
            have t9 : ((k : Int) + 1 == (b : Int)) = true := by simp; omega
            clear t1 hkb
            go_wp2
            go_ret
            rw [HE2.out, if_pos HKB.out]
            exact ⟨rfl, HR2.out⟩
          · have t9 : ((k : Int) + 1 == (b : Int)) = false := by simp; omega
            by_cases h50 : b - a < 50
            · have t10 : (b : Int) - (a : Int) < 50 := by omega
              go_wp2
              go_ret
              rw [HE2.out, if_neg hkb, if_pos h50]
              exact ⟨rfl, HR2.out⟩
            · have t10 : ¬ (b : Int) - (a : Int) < 50 := by omega
              have HE3 := Lib.hid (HE2.out.trans (by rw [if_neg hkb, if_neg h50]))
              clear HE2
              have HRa := Lib.hid (HR2.out.swap hblk (i := k + 1) (j := k) (x := U (G k)) (y := U (G (k + 1))) (by omega) (by omega) (by rw [HG.out]) (by rw [HG.out])).drew
              obtain ⟨cw, fw⟩ := row_cells (HR2.out.holds hblk HH.out) G HG.out
              rw [HR2.out.size] at cw fw
              have c1 := cw (k + 1) (by omega)
              have c0 := cw k (by omega)
              have f1 := fw (k + 1) (by omega)
              have f0 := fw k (by omega)
              have t6 : (k : Int) + 1 < (d.size : Int) := by omega
              have t7 : (k : Int) < (d.size : Int) := by omega
              have t8 : 0 ≤ (k : Int) + 1 := by omega
              obtain ⟨r1, hr1⟩ : ∃ r1, r1 = swp r (k + 1) k := ⟨_, rfl⟩
              obtain ⟨D1, hD1⟩ : ∃ D1, D1 = if k + 1 - a ≥ 2 then shiftDown ltInt k r1 else r1 := ⟨_, rfl⟩
              obtain ⟨D2, hD2⟩ : ∃ D2, D2 = if b - (k + 1) ≥ 2 then shiftUp ltInt b (k + 1 + 1) D1 else D1 := ⟨_, rfl⟩
              have HE4 := Lib.hid (show R = partialIns ltInt a b s (k + 1) D2 by rw [HE3.out, hD2, hD1, hr1]; rfl)
              rw [← hr1] at HRa
              have HD1 := Lib.hid hD1
              have HD2 := Lib.hid hD2
              clear hr1 hD1 hD2 HE3 HR2 cw fw HI
              go_wp2_with fail
              go_region
              all_goals go_upto_if 61 with fail
              clear c1 c0 f1 f0
              generalize ((w2.setCell ⟨blk, off + (k + 1), none⟩ (.int .u64 (G k))).setCell ⟨blk, off + k, none⟩ (.int .u64 (G (k + 1)))).drew = w3 at *
              go_cut [9] from 13 to 132 (fun _ wx => RowTo blk off w wx d D1)
              case first =>
                by_cases hd : k + 1 - a ≥ 2
                · have t11 : (2 : Int) ≤ (k : Int) + 1 - (a : Int) := by omega
                  have HD3 := Lib.hid (show D1 = shiftDown ltInt k r1 by rw [HD1.out, if_pos hd])
                  clear HD1 HD2
                  go_wp2
                  go_loopw [9] (fun u w9 => ∃ (j : Nat) (q : Array Int), u = .int .i64 (j : Int) ∧ j ≤ k ∧ RowTo blk off w w9 d q ∧ shiftDown ltInt j q = D1) (fun u _ => (intOf u).toNat)
                  case atStart => exact ⟨k, r1, by first | rfl | go_num, Nat.le_refl _, HRa.out, HD3.out.symm⟩
                  case round =>
                    clear HRa HD3
                    obtain ⟨j, q, rfl, hj, hq, he⟩ := hrel
                    have HQ := Lib.hid hq
                    have HF := Lib.hid he
                    clear hq he
                    cases j with
                    | zero =>
                      go_wp2
                      go_meet
                      rw [← HF.out]
                      exact HQ.out
                    | succ j =>
                      obtain ⟨G2, hG2⟩ : ∃ G : Nat → Int, ∀ t, G t = q[t]! := ⟨fun t => q[t]!, fun _ => rfl⟩
                      obtain ⟨cw, fw⟩ := row_cells (HQ.out.holds hblk HH.out) G2 hG2
                      rw [HQ.out.size] at cw fw
                      have HG2 := Lib.hid hG2
                      have c1 := cw (j + 1) (by omega)
                      have c0 := cw j (by omega)
                      have f1 := fw (j + 1) (by omega)
                      have f0 := fw j (by omega)
                      have u1 : (1 : Int) ≤ ((j + 1 : Nat) : Int) := by omega
                      have u2 : (1 : Int) ≤ (j : Int) + 1 := by omega
                      have u3 : (j : Int) + 1 - 1 = (j : Int) := by omega
                      have u4 : 0 ≤ (j : Int) := by omega
                      have u5 : (j : Int) + 1 < (d.size : Int) := by omega
                      have u6 : (j : Int) < (d.size : Int) := by omega
                      have u7 : 0 ≤ (j : Int) + 1 := by omega
                      clear hG2 cw fw
                      go_upto_region 16 with fail
                      go_quiet (first | (go_at_call 39; refine Calls.quiet_of_same (Less_f _ _ _)))
                      generalize hlv : ltInt (G2 (j + 1)) (G2 j) = lv at *
                      cases lv with
                      | false =>
                        go_wp2
                        go_meet
                        rw [← HF.out, down_stop q j (by rw [← HG2.out, ← HG2.out]; exact hlv)]
                        exact HQ.out.drewN nq
                      | true =>
                        have HSW2 := Lib.hid (((HQ.out.drewN nq).swap hblk (i := j + 1) (j := j) (x := U (G2 j)) (y := U (G2 (j + 1))) (by omega) (by omega) (by rw [HG2.out]) (by rw [HG2.out])).drew)
                        have HON := Lib.hid (down_on q j (by rw [← HG2.out, ← HG2.out]; exact hlv))
                        have c1' : (wr.drewN nq).cell? ⟨blk, off + (j + 1), none⟩ = some (.int .u64 (G2 (j + 1))) := c1
                        have c0' : (wr.drewN nq).cell? ⟨blk, off + j, none⟩ = some (.int .u64 (G2 j)) := c0
                        have f1' : (wr.drewN nq).frozen? ⟨blk, off + (j + 1), none⟩ = false := f1
                        have f0' : (wr.drewN nq).frozen? ⟨blk, off + j, none⟩ = false := f0
                        clear c1 c0 f1 f0
                        generalize wr.drewN nq = w5 at *
                        go_wp2
                        go_region
                        all_goals go_wp2
                        go_roundw
                        case rel => first | exact ⟨j, swp q (j + 1) j, by first | rfl | go_num, by omega, HSW2.out, by rw [← HF.out, HON.out]⟩ | ((repeat apply Exists.intro); exact ⟨⟨j, swp q (j + 1) j, by first | rfl | go_num, by omega, HSW2.out, by rw [← HF.out, HON.out]⟩, rfl⟩)
                        case measure => simp [intOf]
                · have t11 : ¬ (2 : Int) ≤ (k : Int) + 1 - (a : Int) := by omega
                  have HD3 := Lib.hid (show D1 = r1 by rw [HD1.out, if_neg hd])
                  clear HD1
                  go_wp2
                  go_meet
                  rw [HD3.out]
                  exact HRa.out
              case rest =>
              have HRb := Lib.hid hcut
              clear hcut HRa HD1
              go_upto_if 98 with fail
              by_cases hd : b - (k + 1) ≥ 2
              · have t11 : (2 : Int) ≤ (b : Int) - ((k : Int) + 1) := by omega
                have HD3 := Lib.hid (show D2 = shiftUp ltInt b (k + 1 + 1) D1 by rw [HD2.out, if_pos hd])
                clear HD2
                go_wp2
                go_loopw [10] (fun u w9 => ∃ (j : Nat) (q : Array Int), u = .int .i64 (j : Int) ∧ 1 ≤ j ∧ j ≤ b ∧ RowTo blk off w w9 d q ∧ shiftUp ltInt b j q = D2) (fun u _ => b - (intOf u).toNat)
                case atStart => exact ⟨k + 1 + 1, D1, by first | rfl | go_num, by omega, by omega, HRb.out, HD3.out.symm⟩
                case round =>
                  clear HRb HD3
                  obtain ⟨j1, q, rfl, hj, hjb, hq, he⟩ := hrel
                  have HQ := Lib.hid hq
                  have HF := Lib.hid he
                  clear hq he
                  obtain ⟨j, rfl⟩ : ∃ j, j1 = j + 1 := ⟨j1 - 1, by omega⟩
                  by_cases hjl : j + 1 < b
                  · obtain ⟨G2, hG2⟩ : ∃ G : Nat → Int, ∀ t, G t = q[t]! := ⟨fun t => q[t]!, fun _ => rfl⟩
                    obtain ⟨cw, fw⟩ := row_cells (HQ.out.holds hblk HH.out) G2 hG2
                    rw [HQ.out.size] at cw fw
                    have HG2 := Lib.hid hG2
                    have c1 := cw (j + 1) (by omega)
                    have c0 := cw j (by omega)
                    have f1 := fw (j + 1) (by omega)
                    have f0 := fw j (by omega)
                    have u1 : ((j + 1 : Nat) : Int) < (b : Int) := by omega
                    have u2 : (j : Int) + 1 < (b : Int) := by omega
                    have u3 : (j : Int) + 1 - 1 = (j : Int) := by omega
                    have u4 : 0 ≤ (j : Int) := by omega
                    have u5 : (j : Int) + 1 < (d.size : Int) := by omega
                    have u6 : (j : Int) < (d.size : Int) := by omega
                    have u7 : 0 ≤ (j : Int) + 1 := by omega
                    clear hG2 cw fw
                    go_upto_region 22 with fail
                    go_quiet (first | (go_at_call 39; refine Calls.quiet_of_same (Less_f _ _ _)))
                    generalize hlv : ltInt (G2 (j + 1)) (G2 j) = lv at *
                    cases lv with
                    | false =>
                      have HQ9 := Lib.hid (show RowTo blk off w _ d D2 by rw [← HF.out, up_stop q b (j + 1) hjl (by rw [← HG2.out, ← HG2.out]; exact hlv)]; exact HQ.out.drewN nq)
                      go_wp2
                      go_roundw
                      case rel => exact ⟨k + 1, s, D2, by first | rfl | go_num, by go_num, by omega, by omega, by omega, HQ9.out, HE4.out⟩
                      case measure => simp [intOf]; omega
                    | true =>
                      have HSW2 := Lib.hid (((HQ.out.drewN nq).swap hblk (i := j + 1) (j := j) (x := U (G2 j)) (y := U (G2 (j + 1))) (by omega) (by omega) (by rw [HG2.out]) (by rw [HG2.out])).drew)
                      have HON := Lib.hid (up_on q b (j + 1) hjl (by rw [← HG2.out, ← HG2.out]; exact hlv))
                      have c1' : (wr.drewN nq).cell? ⟨blk, off + (j + 1), none⟩ = some (.int .u64 (G2 (j + 1))) := c1
                      have c0' : (wr.drewN nq).cell? ⟨blk, off + j, none⟩ = some (.int .u64 (G2 j)) := c0
                      have f1' : (wr.drewN nq).frozen? ⟨blk, off + (j + 1), none⟩ = false := f1
                      have f0' : (wr.drewN nq).frozen? ⟨blk, off + j, none⟩ = false := f0
                      clear c1 c0 f1 f0
                      generalize wr.drewN nq = w5 at *
                      go_wp2
                      go_region
                      all_goals go_wp2
                      go_roundw
                      case rel => first | exact ⟨j + 1 + 1, swp q (j + 1) j, by go_num, by omega, by omega, HSW2.out, by rw [← HF.out, HON.out]; rfl⟩ | ((repeat apply Exists.intro); exact ⟨⟨j + 1 + 1, swp q (j + 1) j, by go_num, by omega, by omega, HSW2.out, by rw [← HF.out, HON.out]; rfl⟩, rfl⟩)
                      case measure => simp [intOf]; omega
                  · have u1 : ¬ ((j + 1 : Nat) : Int) < (b : Int) := by omega
                    have u2 : ¬ (j : Int) + 1 < (b : Int) := by omega
                    have HQ9 := Lib.hid (show RowTo blk off w _ d D2 by rw [← HF.out, up_out q b (j + 1) hjl]; exact HQ.out)
                    go_wp2
                    go_roundw
                    case rel => exact ⟨k + 1, s, D2, by first | rfl | go_num, by go_num, by omega, by omega, by omega, HQ9.out, HE4.out⟩
                    case measure => simp [intOf]; omega
              · have t11 : ¬ (2 : Int) ≤ (b : Int) - ((k : Int) + 1) := by omega
                have HD3 := Lib.hid (show D2 = D1 by rw [HD2.out, if_neg hd])
                clear HD2
                have HQ9 := Lib.hid (show RowTo blk off w _ d D2 by rw [HD3.out]; exact HRb.out)
                go_wp2
                go_roundw
                case rel => exact ⟨k + 1, s, D2, by first | rfl | go_num, by go_num, by omega, by omega, by omega, HQ9.out, HE4.out⟩
                case measure => simp [intOf]; omega
end Go.Proofs.Ytplfnjpoikhmbaa.Nt
