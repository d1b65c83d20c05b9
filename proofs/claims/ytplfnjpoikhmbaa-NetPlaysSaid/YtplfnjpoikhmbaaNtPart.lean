/-
  The net (layer 30): the two partitions at numbers of 64 bits.
  Condition: the row lies in one block, one cell each.
-/
import Derived.Test.YtplfnjpoikhmbaaNtRow
import Derived.Deep.CutRange
open Go Go.RowKit Go.Sort
namespace Go.Proofs.Ytplfnjpoikhmbaa.Nt
open Base

section
variable {α : Type} [Inhabited α]
theorem up_go (p : α → Bool) (r : Array α) (j i : Nat) (h : i ≤ j) (hp : p r[i]! = true) : scanUp p r j i = scanUp p r j (i + 1) := by
  rw [scanUp, if_pos (by simp [h, hp])]
theorem up_end (p : α → Bool) (r : Array α) (j i : Nat) (h : (decide (i ≤ j) && p r[i]!) = false) : scanUp p r j i = i := by
  rw [scanUp, if_neg (by simp [h])]
theorem down_go (p : α → Bool) (r : Array α) (i j : Nat) (h : i ≤ j) (h0 : 0 < j) (hp : p r[j]! = true) : scanDown p r i j = scanDown p r i (j - 1) := by
  obtain ⟨k, rfl⟩ : ∃ k, j = k + 1 := ⟨j - 1, by omega⟩
  rw [scanDown, if_pos (by simp [h, hp])]
  rfl
theorem down_end (p : α → Bool) (r : Array α) (i j : Nat) (h : (decide (i ≤ j) && p r[j]!) = false) : scanDown p r i j = j := by
  cases j with
  | zero => rfl
  | succ k => rw [scanDown, if_neg (by simp [h])]
/-- The two scans do not stop at one place. -/
theorem apart (p : α → Bool) (r : Array α) (j i i2 j2 : Nat) (h0 : 0 < i) (h1 : i2 = scanUp p r j i) (h2 : j2 = scanDown (fun x => !p x) r i2 j) (h : i2 ≤ j2) : i2 < j2 := by
  obtain ⟨u1, _, _, u4⟩ := scanUp_spec p r j _ i rfl
  obtain ⟨v1, _, _, v4⟩ := scanDown_spec (fun x => !p x) r i2 j
  rw [← h1] at u1 u4
  rw [← h2] at v1 v4
  rcases Nat.lt_or_ge i2 j2 with h' | h'
  · exact h'
  · have e : j2 = i2 := by omega
    have f1 := u4 (by omega)
    have f2 := v4 h (by omega)
    rw [e] at f2
    simp [f1] at f2
end

set_option maxRecDepth 100000 in
set_option maxHeartbeats 8000000 in
theorem PartEq_f (blk off cap a b pivot : Nat) (d : Array Int) (w : World) (hH : Holds U w blk off d) (hblk : blk < w.heap.size) (hap : a ≤ pivot) (hpb : pivot < b) (hb : b ≤ d.size) (hsz : d.size < 4611686018427387904) :
    Calls Try.prog 40 #[.slice (some ⟨blk, off, none⟩) d.size cap, .int .i64 a, .int .i64 b, .int .i64 pivot] w fun e w' => e = .returned (.int .i64 (((partitionEqual ltInt d a b pivot).1 : Nat) : Int)) ∧ RowTo blk off w w' d (partitionEqual ltInt d a b pivot).2 := by
  obtain ⟨G0, hG0⟩ : ∃ G : Nat → Int, ∀ t, G t = d[t]! := ⟨fun t => d[t]!, fun _ => rfl⟩
  obtain ⟨cw0, fw0⟩ := row_cells hH G0 hG0
  have ca := cw0 a (by omega)
  have fa := fw0 a (by omega)
  have cp := cw0 pivot (by omega)
  have fp := fw0 pivot (by omega)
  obtain ⟨v', hy'⟩ := cell?_setCell_some (p := ⟨blk, off + a, none⟩) (x := .int .u64 (G0 pivot)) (q := ⟨blk, off + pivot, none⟩) cp
  have HH := Lib.hid hH
  have HR0 := Lib.hid (((RowTo.refl hH).swap hblk (i := a) (j := pivot) (x := U (G0 pivot)) (y := U (G0 a)) (by omega) (by omega) (by rw [hG0]) (by rw [hG0])).drew)
  clear hH hG0 cw0 fw0
  go_enter Try.func40, Try.ntmps40
  go_wp2
  go_region
  go_wp2
  clear ca fa cp fp hy' v'
  have hR0 := HR0.out
  clear HR0
  generalize ((w.setCell ⟨blk, off + a, none⟩ (.int .u64 (G0 pivot))).setCell ⟨blk, off + pivot, none⟩ (.int .u64 (G0 a))).drew = W0 at *
  have HR0 := Lib.hid hR0
  clear hR0
  go_loopw [9, 10] (fun u v wr => ∃ (i j : Nat) (r : Array Int), u = .int .i64 (i : Int) ∧ v = .int .i64 (j : Int) ∧ a < i ∧ i ≤ j + 1 ∧ j < b ∧ RowTo blk off w wr d r ∧ partEqLoop ltInt a i j r = partEqLoop ltInt a (a + 1) (b - 1) (swp d a pivot)) (fun u v _ => (intOf v).toNat + 1 - (intOf u).toNat)
  case atStart => exact ⟨a + 1, b - 1, swp d a pivot, by go_num, by go_num, by omega, by omega, by omega, HR0.out, rfl⟩
  case round =>
    clear HR0
    obtain ⟨i, j, r, rfl, rfl, hai, hij, hjb, hr, he⟩ := hrel
    obtain ⟨G, hG⟩ : ∃ G : Nat → Int, ∀ t, G t = r[t]! := ⟨fun t => r[t]!, fun _ => rfl⟩
    obtain ⟨cw, -⟩ := row_cells (hr.holds hblk HH.out) G hG
    rw [hr.size] at cw
    have HG := Lib.hid hG
    have HR := Lib.hid hr
    have HE := Lib.hid he
    clear hG hr he
    generalize wr = W1 at *
    go_wp2
    go_loopw [9] (fun u w1 => ∃ (k n1 : Nat), u = .int .i64 (k : Int) ∧ i ≤ k ∧ k ≤ j + 1 ∧ w1 = W1.drewN n1 ∧ scanUp (fun x => !ltInt r[a]! x) r j k = scanUp (fun x => !ltInt r[a]! x) r j i) (fun u _ => j + 1 - (intOf u).toNat)
    case atStart => exact ⟨i, 0, rfl, Nat.le_refl _, hij, rfl, rfl⟩
    case round =>
      obtain ⟨iA, mA, rfl, hloA, hhiA, hwA, hscA⟩ := hrel
      have HSA := Lib.hid hscA
      have cxA : ∀ t, t < d.size → wr.cell? ⟨blk, off + t, none⟩ = some (.int .u64 (G t)) := fun t ht => by rw [hwA]; exact cw t ht
      have HVA := Lib.hid hwA
      clear hwA hscA
      obtain ⟨tb, htb⟩ : ∃ tb : Bool, tb = (decide (iA ≤ j) && (!ltInt (G a) (G iA))) := ⟨_, rfl⟩
      have HTA := Lib.hid htb
      clear htb
      go_upto_region 3 with fail
      go_cut [43] from 29 to 45 (fun c wx => c = .bool tb ∧ ∃ n : Nat, wx = wr.drewN n)
      case first =>
        by_cases hle : iA ≤ j
        · have t1 : (iA : Int) ≤ (j : Int) := by omega
          have HX := Lib.hid (show tb = (!ltInt (G a) (G iA)) by rw [HTA.out]; simp [hle])
          go_quiet (first | (go_at_call 39; refine Calls.quiet_of_same (Less_f _ _ _)))
          go_wp2
          go_meet
          exact ⟨by rw [HX.out], nq, rfl⟩
        · have t1 : decide ((iA : Int) ≤ (j : Int)) = false := decide_eq_false (by omega)
          have HX := Lib.hid (show tb = false by rw [HTA.out]; simp [hle])
          go_quiet (first | (go_at_call 39; refine Calls.quiet_of_same (Less_f _ _ _)))
          go_wp2
          go_meet
          exact ⟨by rw [HX.out], nq, rfl⟩
      case rest =>
      obtain ⟨rfl, nA, rfl⟩ := hcut
      have HWA := Lib.hid (show wr.drewN nA = W1.drewN (mA + nA) by rw [HVA.out, World.drewN_drewN])
      have cwA : ∀ t, t < d.size → (wr.drewN nA).cell? ⟨blk, off + t, none⟩ = some (.int .u64 (G t)) := cxA
      clear cxA HVA
      generalize wr.drewN nA = wA at *
      cases tb with
      | true =>
        have HP := Lib.hid (show iA ≤ j ∧ (!ltInt (G a) (G iA)) = true by have := HTA.out.symm; rw [Bool.and_eq_true, decide_eq_true_eq] at this; exact this)
        go_wp2
        go_roundw
        case rel => first | exact ⟨iA + 1, mA + nA, by go_num, by omega, by have := HP.out.1; omega, HWA.out, (up_go (fun x => !ltInt r[a]! x) r j iA HP.out.1 (by have := HP.out.2; rw [HG.out, HG.out] at this; exact this)).symm.trans HSA.out⟩ | ((repeat apply Exists.intro); exact ⟨⟨iA + 1, mA + nA, by go_num, by omega, by have := HP.out.1; omega, HWA.out, (up_go (fun x => !ltInt r[a]! x) r j iA HP.out.1 (by have := HP.out.2; rw [HG.out, HG.out] at this; exact this)).symm.trans HSA.out⟩, rfl⟩)
        case measure => have := HP.out.1; simp [intOf]; omega
      | false =>
        have HIA := Lib.hid (show iA = scanUp (fun x => !ltInt r[a]! x) r j i by
          rw [← HSA.out]
          exact (up_end (fun x => !ltInt r[a]! x) r j iA (by have := HTA.out.symm; rw [HG.out, HG.out] at this; exact this)).symm)
        clear HTA HSA
        go_wp2
        go_loopw [10] (fun u w1 => ∃ (k n1 : Nat), u = .int .i64 (k : Int) ∧ k ≤ j ∧ iA ≤ k + 1 ∧ w1 = wA.drewN n1 ∧ scanDown (fun x => ltInt r[a]! x) r iA k = scanDown (fun x => ltInt r[a]! x) r iA j) (fun u _ => (intOf u).toNat)
        case atStart => exact ⟨j, 0, rfl, Nat.le_refl _, hhiA, rfl, rfl⟩
        case round =>
          obtain ⟨jB, mB, rfl, hhiB, hloB, hwB, hscB⟩ := hrel
          have HSB := Lib.hid hscB
          have cxB : ∀ t, t < d.size → wr.cell? ⟨blk, off + t, none⟩ = some (.int .u64 (G t)) := fun t ht => by rw [hwB]; exact cwA t ht
          have HVB := Lib.hid hwB
          clear hwB hscB
          obtain ⟨tb, htb⟩ : ∃ tb : Bool, tb = (decide (iA ≤ jB) && ltInt (G a) (G jB)) := ⟨_, rfl⟩
          have HTB := Lib.hid htb
          clear htb
          go_upto_region 5 with fail
          go_cut [59] from 46 to 61 (fun c wx => c = .bool tb ∧ ∃ n : Nat, wx = wr.drewN n)
          case first =>
            by_cases hle : iA ≤ jB
            · have t1 : (iA : Int) ≤ (jB : Int) := by omega
              have HX := Lib.hid (show tb = ltInt (G a) (G jB) by rw [HTB.out]; simp [hle])
              go_quiet (first | (go_at_call 39; refine Calls.quiet_of_same (Less_f _ _ _)))
              go_wp2
              go_meet
              exact ⟨by rw [HX.out], nq, rfl⟩
            · have t1 : decide ((iA : Int) ≤ (jB : Int)) = false := decide_eq_false (by omega)
              have HX := Lib.hid (show tb = false by rw [HTB.out]; simp [hle])
              go_quiet (first | (go_at_call 39; refine Calls.quiet_of_same (Less_f _ _ _)))
              go_wp2
              go_meet
              exact ⟨by rw [HX.out], nq, rfl⟩
          case rest =>
          obtain ⟨rfl, nB, rfl⟩ := hcut
          have HWB := Lib.hid (show wr.drewN nB = wA.drewN (mB + nB) by rw [HVB.out, World.drewN_drewN])
          have cwB : ∀ t, t < d.size → (wr.drewN nB).cell? ⟨blk, off + t, none⟩ = some (.int .u64 (G t)) := cxB
          clear cxB HVB
          generalize wr.drewN nB = wB at *
          cases tb with
          | true =>
            have HP := Lib.hid (show iA ≤ jB ∧ ltInt (G a) (G jB) = true by have := HTB.out.symm; rw [Bool.and_eq_true, decide_eq_true_eq] at this; exact this)
            go_wp2
            go_roundw
            case rel => first | exact ⟨jB - 1, mB + nB, by have := HP.out.1; have := hai; go_num, by omega, by have := HP.out.1; omega, HWB.out, (down_go (fun x => ltInt r[a]! x) r iA jB HP.out.1 (by have := HP.out.1; have := hai; omega) (by have := HP.out.2; rw [HG.out, HG.out] at this; exact this)).symm.trans HSB.out⟩ | ((repeat apply Exists.intro); exact ⟨⟨jB - 1, mB + nB, by have := HP.out.1; have := hai; go_num, by omega, by have := HP.out.1; omega, HWB.out, (down_go (fun x => ltInt r[a]! x) r iA jB HP.out.1 (by have := HP.out.1; have := hai; omega) (by have := HP.out.2; rw [HG.out, HG.out] at this; exact this)).symm.trans HSB.out⟩, rfl⟩)
            case measure => have := HP.out.1; have := hai; simp [intOf]; omega
          | false =>
            have HIB := Lib.hid (show jB = scanDown (fun x => ltInt r[a]! x) r iA j by
              rw [← HSB.out]
              exact (down_end (fun x => ltInt r[a]! x) r iA jB (by have := HTB.out.symm; rw [HG.out, HG.out] at this; exact this)).symm)
            clear HTB HSB
            clear cwA cw
            have hjb2 : jB < b := by omega
            have HE2 := Lib.hid (partEqLoop_eq ltInt a i j r)
            by_cases hlt : jB < iA
            · have t1 : (iA : Int) > (jB : Int) := by omega
              have t2 : (jB : Int) < (iA : Int) := by omega
              clear cwB
              go_wp2
              go_ret
              have e : partitionEqual ltInt d a b pivot = (iA, r) := by
                unfold partitionEqual
                rw [← HE.out, HE2.out, ← HIA.out, ← HIB.out, if_pos hlt]
              rw [e]
              exact ⟨rfl, by rw [HWB.out, HWA.out, World.drewN_drewN]; exact HR.out.drewN _⟩
            · have t1 : ¬ (iA : Int) > (jB : Int) := by omega
              have t2 : ¬ (jB : Int) < (iA : Int) := by omega
              have HLT := Lib.hid (apart (fun x => !ltInt r[a]! x) r j i iA jB (by omega) HIA.out (by rw [HIB.out]; simp) (by omega))
              have hlt2 := HLT.out
              have ci := cwB iA (by omega)
              have cj := cwB jB (by omega)
              have HR2 := Lib.hid (show RowTo blk off w wB d r by rw [HWB.out, HWA.out, World.drewN_drewN]; exact HR.out.drewN _)
              obtain ⟨-, fw2⟩ := row_cells (HR2.out.holds hblk HH.out) G HG.out
              rw [HR2.out.size] at fw2
              have fi := fw2 iA (by omega)
              have fj := fw2 jB (by omega)
              clear fw2 cwB
              go_wp2
              go_region
              all_goals go_wp2
              go_roundw
              case rel => first | exact ⟨iA + 1, jB - 1, swp r iA jB, by go_num, by go_num, by omega, by omega, by omega, (HR2.out.swap hblk (by omega) (by omega) (by rw [HG.out]) (by rw [HG.out])).drew, by rw [← HE.out, HE2.out, ← HIA.out, ← HIB.out, if_neg hlt]⟩ | ((repeat apply Exists.intro); exact ⟨⟨iA + 1, jB - 1, swp r iA jB, by go_num, by go_num, by omega, by omega, by omega, (HR2.out.swap hblk (by omega) (by omega) (by rw [HG.out]) (by rw [HG.out])).drew, by rw [← HE.out, HE2.out, ← HIA.out, ← HIB.out, if_neg hlt]⟩, rfl⟩)
              case measure => simp [intOf]; omega

set_option maxRecDepth 100000 in
set_option maxHeartbeats 16000000 in
theorem Part_f (blk off cap a b pivot : Nat) (d : Array Int) (w : World) (hH : Holds U w blk off d) (hblk : blk < w.heap.size) (hap : a ≤ pivot) (hpb : pivot < b) (hb : b ≤ d.size) (hsz : d.size < 4611686018427387904) :
    Calls Try.prog 41 #[.slice (some ⟨blk, off, none⟩) d.size cap, .int .i64 a, .int .i64 b, .int .i64 pivot] w fun e w' => e = .returned (.tuple #[.int .i64 (((partition ltInt d a b pivot).1 : Nat) : Int), .bool (partition ltInt d a b pivot).2.1]) ∧ RowTo blk off w w' d (partition ltInt d a b pivot).2.2 := by
  obtain ⟨G0, hG0⟩ : ∃ G : Nat → Int, ∀ t, G t = d[t]! := ⟨fun t => d[t]!, fun _ => rfl⟩
  obtain ⟨cw0, fw0⟩ := row_cells hH G0 hG0
  have ca := cw0 a (by omega)
  have fa := fw0 a (by omega)
  have cp := cw0 pivot (by omega)
  have fp := fw0 pivot (by omega)
  obtain ⟨v', hy'⟩ := cell?_setCell_some (p := ⟨blk, off + a, none⟩) (x := .int .u64 (G0 pivot)) (q := ⟨blk, off + pivot, none⟩) cp
  have HH := Lib.hid hH
  have HR0 := Lib.hid (((RowTo.refl hH).swap hblk (i := a) (j := pivot) (x := U (G0 pivot)) (y := U (G0 a)) (by omega) (by omega) (by rw [hG0]) (by rw [hG0])).drew)
  clear hH hG0 cw0 fw0
  have e1 : ((a : Int) + 1) = ((a + 1 : Nat) : Int) := by omega
  have e2 : ((b : Int) - 1) = ((b - 1 : Nat) : Int) := by omega
  have HE1 := Lib.hid e1
  have HE2 := Lib.hid e2
  clear e1 e2
  go_enter Try.func41, Try.ntmps41
  go_wp2
  go_region
  go_wp2
  clear ca fa cp fp hy' v'
  have hR0 := HR0.out
  clear HR0
  generalize ((w.setCell ⟨blk, off + a, none⟩ (.int .u64 (G0 pivot))).setCell ⟨blk, off + pivot, none⟩ (.int .u64 (G0 a))).drew = W1 at *
  rw [HE1.out, HE2.out]
  obtain ⟨r, hr⟩ : ∃ r, r = swp d a pivot := ⟨_, rfl⟩
  obtain ⟨i, hi⟩ : ∃ i, i = a + 1 := ⟨_, rfl⟩
  obtain ⟨j, hj⟩ : ∃ j, j = b - 1 := ⟨_, rfl⟩
  rw [← hr] at hR0
  rw [← hi, ← hj]
  have hai : a < i := by omega
  have hij : i ≤ j + 1 := by omega
  have hjb : j < b := by omega
  have HI0 := Lib.hid hi
  have HJ0 := Lib.hid hj
  have HD0 := Lib.hid hr
  obtain ⟨G, hG⟩ : ∃ G : Nat → Int, ∀ t, G t = r[t]! := ⟨fun t => r[t]!, fun _ => rfl⟩
  obtain ⟨cw, -⟩ := row_cells (hR0.holds hblk HH.out) G hG
  rw [hR0.size] at cw
  have HG := Lib.hid hG
  have HR := Lib.hid hR0
  clear hG hR0 hi hj hr HE1 HE2
  go_loopw [10] (fun u w1 => ∃ (k n1 : Nat), u = .int .i64 (k : Int) ∧ i ≤ k ∧ k ≤ j + 1 ∧ w1 = W1.drewN n1 ∧ scanUp (fun x => ltInt x r[a]!) r j k = scanUp (fun x => ltInt x r[a]!) r j i) (fun u _ => j + 1 - (intOf u).toNat)
  case atStart => exact ⟨i, 0, rfl, Nat.le_refl _, hij, rfl, rfl⟩
  case round =>
    obtain ⟨iA, mA, rfl, hloA, hhiA, hwA, hscA⟩ := hrel
    have HSA := Lib.hid hscA
    have cxA : ∀ t, t < d.size → wr.cell? ⟨blk, off + t, none⟩ = some (.int .u64 (G t)) := fun t ht => by rw [hwA]; exact cw t ht
    have HVA := Lib.hid hwA
    clear hwA hscA
    obtain ⟨tb, htb⟩ : ∃ tb : Bool, tb = (decide (iA ≤ j) && ltInt (G iA) (G a)) := ⟨_, rfl⟩
    have HTA := Lib.hid htb
    clear htb
    go_upto_region 3 with fail
    go_cut [43] from 30 to 45 (fun c wx => c = .bool tb ∧ ∃ n : Nat, wx = wr.drewN n)
    case first =>
      by_cases hle : iA ≤ j
      · have t1 : (iA : Int) ≤ (j : Int) := by omega
        have HX := Lib.hid (show tb = ltInt (G iA) (G a) by rw [HTA.out]; simp [hle])
        go_quiet (first | (go_at_call 39; refine Calls.quiet_of_same (Less_f _ _ _)))
        go_wp2
        go_meet
        exact ⟨by rw [HX.out], nq, rfl⟩
      · have t1 : decide ((iA : Int) ≤ (j : Int)) = false := decide_eq_false (by omega)
        have HX := Lib.hid (show tb = false by rw [HTA.out]; simp [hle])
        go_quiet (first | (go_at_call 39; refine Calls.quiet_of_same (Less_f _ _ _)))
        go_wp2
        go_meet
        exact ⟨by rw [HX.out], nq, rfl⟩
    case rest =>
    obtain ⟨rfl, nA, rfl⟩ := hcut
    have HWA := Lib.hid (show wr.drewN nA = W1.drewN (mA + nA) by rw [HVA.out, World.drewN_drewN])
    have cwA : ∀ t, t < d.size → (wr.drewN nA).cell? ⟨blk, off + t, none⟩ = some (.int .u64 (G t)) := cxA
    clear cxA HVA
    generalize wr.drewN nA = wA at *
    cases tb with
    | true =>
      have HP := Lib.hid (show iA ≤ j ∧ ltInt (G iA) (G a) = true by have := HTA.out.symm; rw [Bool.and_eq_true, decide_eq_true_eq] at this; exact this)
      go_wp2
      go_roundw
      case rel => first | exact ⟨iA + 1, mA + nA, by go_num, by omega, by have := HP.out.1; omega, HWA.out, (up_go (fun x => ltInt x r[a]!) r j iA HP.out.1 (by have := HP.out.2; rw [HG.out, HG.out] at this; exact this)).symm.trans HSA.out⟩ | ((repeat apply Exists.intro); exact ⟨⟨iA + 1, mA + nA, by go_num, by omega, by have := HP.out.1; omega, HWA.out, (up_go (fun x => ltInt x r[a]!) r j iA HP.out.1 (by have := HP.out.2; rw [HG.out, HG.out] at this; exact this)).symm.trans HSA.out⟩, rfl⟩)
      case measure => have := HP.out.1; simp [intOf]; omega
    | false =>
      have HIA := Lib.hid (show iA = scanUp (fun x => ltInt x r[a]!) r j i by
        rw [← HSA.out]
        exact (up_end (fun x => ltInt x r[a]!) r j iA (by have := HTA.out.symm; rw [HG.out, HG.out] at this; exact this)).symm)
      clear HTA HSA
      go_wp2
      go_loopw [11] (fun u w1 => ∃ (k n1 : Nat), u = .int .i64 (k : Int) ∧ k ≤ j ∧ iA ≤ k + 1 ∧ w1 = wA.drewN n1 ∧ scanDown (fun x => !ltInt x r[a]!) r iA k = scanDown (fun x => !ltInt x r[a]!) r iA j) (fun u _ => (intOf u).toNat)
      case atStart => exact ⟨j, 0, rfl, Nat.le_refl _, hhiA, rfl, rfl⟩
      case round =>
        obtain ⟨jB, mB, rfl, hhiB, hloB, hwB, hscB⟩ := hrel
        have HSB := Lib.hid hscB
        have cxB : ∀ t, t < d.size → wr.cell? ⟨blk, off + t, none⟩ = some (.int .u64 (G t)) := fun t ht => by rw [hwB]; exact cwA t ht
        have HVB := Lib.hid hwB
        clear hwB hscB
        obtain ⟨tb, htb⟩ : ∃ tb : Bool, tb = (decide (iA ≤ jB) && (!ltInt (G jB) (G a))) := ⟨_, rfl⟩
        have HTB := Lib.hid htb
        clear htb
        go_upto_region 5 with fail
        go_cut [60] from 46 to 62 (fun c wx => c = .bool tb ∧ ∃ n : Nat, wx = wr.drewN n)
        case first =>
          by_cases hle : iA ≤ jB
          · have t1 : (iA : Int) ≤ (jB : Int) := by omega
            have HX := Lib.hid (show tb = (!ltInt (G jB) (G a)) by rw [HTB.out]; simp [hle])
            go_quiet (first | (go_at_call 39; refine Calls.quiet_of_same (Less_f _ _ _)))
            go_wp2
            go_meet
            exact ⟨by rw [HX.out], nq, rfl⟩
          · have t1 : decide ((iA : Int) ≤ (jB : Int)) = false := decide_eq_false (by omega)
            have HX := Lib.hid (show tb = false by rw [HTB.out]; simp [hle])
            go_quiet (first | (go_at_call 39; refine Calls.quiet_of_same (Less_f _ _ _)))
            go_wp2
            go_meet
            exact ⟨by rw [HX.out], nq, rfl⟩
        case rest =>
        obtain ⟨rfl, nB, rfl⟩ := hcut
        have HWB := Lib.hid (show wr.drewN nB = wA.drewN (mB + nB) by rw [HVB.out, World.drewN_drewN])
        have cwB : ∀ t, t < d.size → (wr.drewN nB).cell? ⟨blk, off + t, none⟩ = some (.int .u64 (G t)) := cxB
        clear cxB HVB
        generalize wr.drewN nB = wB at *
        cases tb with
        | true =>
          have HP := Lib.hid (show iA ≤ jB ∧ (!ltInt (G jB) (G a)) = true by have := HTB.out.symm; rw [Bool.and_eq_true, decide_eq_true_eq] at this; exact this)
          go_wp2
          go_roundw
          case rel => first | exact ⟨jB - 1, mB + nB, by have := HP.out.1; have := hai; go_num, by omega, by have := HP.out.1; omega, HWB.out, (down_go (fun x => !ltInt x r[a]!) r iA jB HP.out.1 (by have := HP.out.1; have := hai; omega) (by have := HP.out.2; rw [HG.out, HG.out] at this; exact this)).symm.trans HSB.out⟩ | ((repeat apply Exists.intro); exact ⟨⟨jB - 1, mB + nB, by have := HP.out.1; have := hai; go_num, by omega, by have := HP.out.1; omega, HWB.out, (down_go (fun x => !ltInt x r[a]!) r iA jB HP.out.1 (by have := HP.out.1; have := hai; omega) (by have := HP.out.2; rw [HG.out, HG.out] at this; exact this)).symm.trans HSB.out⟩, rfl⟩)
          case measure => have := HP.out.1; have := hai; simp [intOf]; omega
        | false =>
          have HIB := Lib.hid (show jB = scanDown (fun x => !ltInt x r[a]!) r iA j by
            rw [← HSB.out]
            exact (down_end (fun x => !ltInt x r[a]!) r iA jB (by have := HTB.out.symm; rw [HG.out, HG.out] at this; exact this)).symm)
          clear HTB HSB
          clear cwA cw
          have hjb2 : jB < b := by omega
          have HQ := Lib.hid (show partition ltInt d a b pivot = if iA > jB then (jB, true, swp r jB a) else ((partLoop ltInt a (iA + 1) (jB - 1) (swp r iA jB)).1, false, swp (partLoop ltInt a (iA + 1) (jB - 1) (swp r iA jB)).2 (partLoop ltInt a (iA + 1) (jB - 1) (swp r iA jB)).1 a) by
            rw [HIB.out, HIA.out, HI0.out, HJ0.out, HD0.out]; rfl)
          have HR2 := Lib.hid (show RowTo blk off w wB d r by rw [HWB.out, HWA.out, World.drewN_drewN]; exact HR.out.drewN _)
          by_cases hlt : jB < iA
          · have t1 : (iA : Int) > (jB : Int) := by omega
            have t2 : (jB : Int) < (iA : Int) := by omega
            have hja : a ≤ jB := by omega
            have cj := cwB jB (by omega)
            have ca := cwB a (by omega)
            obtain ⟨-, fw9⟩ := row_cells (HR2.out.holds hblk HH.out) G HG.out
            rw [HR2.out.size] at fw9
            have fj := fw9 jB (by omega)
            have fa := fw9 a (by omega)
            obtain ⟨v', hy'⟩ := cell?_setCell_some (p := ⟨blk, off + jB, none⟩) (x := .int .u64 (G a)) (q := ⟨blk, off + a, none⟩) ca
            have HZ := Lib.hid ((HR2.out.swap hblk (i := jB) (j := a) (x := U (G a)) (y := U (G jB)) (by omega) (by omega) (by rw [HG.out]) (by rw [HG.out])).drew)
            clear fw9 cwB
            go_wp2
            go_region
            all_goals go_wp2
            go_ret2
            have e : partition ltInt d a b pivot = (jB, true, swp r jB a) := by rw [HQ.out, if_pos hlt]
            rw [e]
            exact ⟨rfl, HZ.out⟩

          · have t1 : ¬ (iA : Int) > (jB : Int) := by omega
            have t2 : ¬ (jB : Int) < (iA : Int) := by omega
            have HLT := Lib.hid (apart (fun x => ltInt x r[a]!) r j i iA jB (by omega) HIA.out HIB.out (by omega))
            have hlt2 := HLT.out
            have ci := cwB iA (by omega)
            have cj := cwB jB (by omega)
            obtain ⟨-, fw2⟩ := row_cells (HR2.out.holds hblk HH.out) G HG.out
            rw [HR2.out.size] at fw2
            have fi := fw2 iA (by omega)
            have fj := fw2 jB (by omega)
            have HS0 := Lib.hid ((HR2.out.swap hblk (i := iA) (j := jB) (x := U (G jB)) (y := U (G iA)) (by omega) (by omega) (by rw [HG.out]) (by rw [HG.out])).drew)
            clear fw2 cwB
            go_wp2
            go_region
            all_goals go_wp2
            obtain ⟨R, hR⟩ : ∃ R, R = partLoop ltInt a (iA + 1) (jB - 1) (swp r iA jB) := ⟨_, rfl⟩
            have HP9 := Lib.hid (show partition ltInt d a b pivot = (R.1, false, swp R.2 R.1 a) by rw [HQ.out, if_neg hlt, hR])
            have HR9 := Lib.hid hR
            clear hR HQ HR HR2 ci cj fi fj HIA HIB HWA HWB
            generalize ((wB.setCell ⟨blk, off + iA, none⟩ (.int .u64 (G jB))).setCell ⟨blk, off + jB, none⟩ (.int .u64 (G iA))).drew = W0 at *
            clear HG HI0 HJ0 HD0
            go_loopw [10, 11] (fun u v wr => ∃ (i j : Nat) (r : Array Int), u = .int .i64 (i : Int) ∧ v = .int .i64 (j : Int) ∧ a < i ∧ i ≤ j + 1 ∧ j < b ∧ RowTo blk off w wr d r ∧ partLoop ltInt a i j r = R) (fun u v _ => (intOf v).toNat + 1 - (intOf u).toNat)
            case atStart => exact ⟨iA + 1, jB - 1, swp r iA jB, by go_num, by go_num, by omega, by omega, by omega, HS0.out, HR9.out.symm⟩
            case round =>
              clear HS0 HR9
              clear hai hij hjb
              obtain ⟨i, j, r, rfl, rfl, hai, hij, hjb, hr, he⟩ := hrel
              obtain ⟨G, hG⟩ : ∃ G : Nat → Int, ∀ t, G t = r[t]! := ⟨fun t => r[t]!, fun _ => rfl⟩
              obtain ⟨cw, -⟩ := row_cells (hr.holds hblk HH.out) G hG
              rw [hr.size] at cw
              have HG := Lib.hid hG
              have HR := Lib.hid hr
              have HE := Lib.hid he
              clear hG hr he
              generalize wr = W1 at *
              go_wp2
              go_loopw [10] (fun u w1 => ∃ (k n1 : Nat), u = .int .i64 (k : Int) ∧ i ≤ k ∧ k ≤ j + 1 ∧ w1 = W1.drewN n1 ∧ scanUp (fun x => ltInt x r[a]!) r j k = scanUp (fun x => ltInt x r[a]!) r j i) (fun u _ => j + 1 - (intOf u).toNat)
              case atStart => exact ⟨i, 0, rfl, Nat.le_refl _, hij, rfl, rfl⟩
              case round =>
                obtain ⟨iC, mC, rfl, hloC, hhiC, hwC, hscC⟩ := hrel
                have HSC := Lib.hid hscC
                have cxC : ∀ t, t < d.size → wr.cell? ⟨blk, off + t, none⟩ = some (.int .u64 (G t)) := fun t ht => by rw [hwC]; exact cw t ht
                have HVC := Lib.hid hwC
                clear hwC hscC
                obtain ⟨tb, htb⟩ : ∃ tb : Bool, tb = (decide (iC ≤ j) && ltInt (G iC) (G a)) := ⟨_, rfl⟩
                have HTC := Lib.hid htb
                clear htb
                go_upto_region 13 with fail
                go_cut [112] from 99 to 114 (fun c wx => c = .bool tb ∧ ∃ n : Nat, wx = wr.drewN n)
                case first =>
                  by_cases hle : iC ≤ j
                  · have t1 : (iC : Int) ≤ (j : Int) := by omega
                    have HX := Lib.hid (show tb = ltInt (G iC) (G a) by rw [HTC.out]; simp [hle])
                    go_quiet (first | (go_at_call 39; refine Calls.quiet_of_same (Less_f _ _ _)))
                    go_wp2
                    go_meet
                    exact ⟨by rw [HX.out], nq, rfl⟩
                  · have t1 : decide ((iC : Int) ≤ (j : Int)) = false := decide_eq_false (by omega)
                    have HX := Lib.hid (show tb = false by rw [HTC.out]; simp [hle])
                    go_quiet (first | (go_at_call 39; refine Calls.quiet_of_same (Less_f _ _ _)))
                    go_wp2
                    go_meet
                    exact ⟨by rw [HX.out], nq, rfl⟩
                case rest =>
                obtain ⟨rfl, nC, rfl⟩ := hcut
                have HWC := Lib.hid (show wr.drewN nC = W1.drewN (mC + nC) by rw [HVC.out, World.drewN_drewN])
                have cwC : ∀ t, t < d.size → (wr.drewN nC).cell? ⟨blk, off + t, none⟩ = some (.int .u64 (G t)) := cxC
                clear cxC HVC
                generalize wr.drewN nC = wC at *
                cases tb with
                | true =>
                  have HP := Lib.hid (show iC ≤ j ∧ ltInt (G iC) (G a) = true by have := HTC.out.symm; rw [Bool.and_eq_true, decide_eq_true_eq] at this; exact this)
                  go_wp2
                  go_roundw
                  case rel => first | exact ⟨iC + 1, mC + nC, by go_num, by omega, by have := HP.out.1; omega, HWC.out, (up_go (fun x => ltInt x r[a]!) r j iC HP.out.1 (by have := HP.out.2; rw [HG.out, HG.out] at this; exact this)).symm.trans HSC.out⟩ | ((repeat apply Exists.intro); exact ⟨⟨iC + 1, mC + nC, by go_num, by omega, by have := HP.out.1; omega, HWC.out, (up_go (fun x => ltInt x r[a]!) r j iC HP.out.1 (by have := HP.out.2; rw [HG.out, HG.out] at this; exact this)).symm.trans HSC.out⟩, rfl⟩)
                  case measure => have := HP.out.1; simp [intOf]; omega
                | false =>
                  have HIC := Lib.hid (show iC = scanUp (fun x => ltInt x r[a]!) r j i by
                    rw [← HSC.out]
                    exact (up_end (fun x => ltInt x r[a]!) r j iC (by have := HTC.out.symm; rw [HG.out, HG.out] at this; exact this)).symm)
                  clear HTC HSC
                  go_wp2
                  go_loopw [11] (fun u w1 => ∃ (k n1 : Nat), u = .int .i64 (k : Int) ∧ k ≤ j ∧ iC ≤ k + 1 ∧ w1 = wC.drewN n1 ∧ scanDown (fun x => !ltInt x r[a]!) r iC k = scanDown (fun x => !ltInt x r[a]!) r iC j) (fun u _ => (intOf u).toNat)
                  case atStart => exact ⟨j, 0, rfl, Nat.le_refl _, hhiC, rfl, rfl⟩
                  case round =>
                    obtain ⟨jD, mD, rfl, hhiD, hloD, hwD, hscD⟩ := hrel
                    have HSD := Lib.hid hscD
                    have cxD : ∀ t, t < d.size → wr.cell? ⟨blk, off + t, none⟩ = some (.int .u64 (G t)) := fun t ht => by rw [hwD]; exact cwC t ht
                    have HVD := Lib.hid hwD
                    clear hwD hscD
                    obtain ⟨tb, htb⟩ : ∃ tb : Bool, tb = (decide (iC ≤ jD) && (!ltInt (G jD) (G a))) := ⟨_, rfl⟩
                    have HTD := Lib.hid htb
                    clear htb
                    go_upto_region 15 with fail
                    go_cut [129] from 115 to 131 (fun c wx => c = .bool tb ∧ ∃ n : Nat, wx = wr.drewN n)
                    case first =>
                      by_cases hle : iC ≤ jD
                      · have t1 : (iC : Int) ≤ (jD : Int) := by omega
                        have HX := Lib.hid (show tb = (!ltInt (G jD) (G a)) by rw [HTD.out]; simp [hle])
                        go_quiet (first | (go_at_call 39; refine Calls.quiet_of_same (Less_f _ _ _)))
                        go_wp2
                        go_meet
                        exact ⟨by rw [HX.out], nq, rfl⟩
                      · have t1 : decide ((iC : Int) ≤ (jD : Int)) = false := decide_eq_false (by omega)
                        have HX := Lib.hid (show tb = false by rw [HTD.out]; simp [hle])
                        go_quiet (first | (go_at_call 39; refine Calls.quiet_of_same (Less_f _ _ _)))
                        go_wp2
                        go_meet
                        exact ⟨by rw [HX.out], nq, rfl⟩
                    case rest =>
                    obtain ⟨rfl, nD, rfl⟩ := hcut
                    have HWD := Lib.hid (show wr.drewN nD = wC.drewN (mD + nD) by rw [HVD.out, World.drewN_drewN])
                    have cwD : ∀ t, t < d.size → (wr.drewN nD).cell? ⟨blk, off + t, none⟩ = some (.int .u64 (G t)) := cxD
                    clear cxD HVD
                    generalize wr.drewN nD = wD at *
                    cases tb with
                    | true =>
                      have HP := Lib.hid (show iC ≤ jD ∧ (!ltInt (G jD) (G a)) = true by have := HTD.out.symm; rw [Bool.and_eq_true, decide_eq_true_eq] at this; exact this)
                      go_wp2
                      go_roundw
                      case rel => first | exact ⟨jD - 1, mD + nD, by have := HP.out.1; have := hai; go_num, by omega, by have := HP.out.1; omega, HWD.out, (down_go (fun x => !ltInt x r[a]!) r iC jD HP.out.1 (by have := HP.out.1; have := hai; omega) (by have := HP.out.2; rw [HG.out, HG.out] at this; exact this)).symm.trans HSD.out⟩ | ((repeat apply Exists.intro); exact ⟨⟨jD - 1, mD + nD, by have := HP.out.1; have := hai; go_num, by omega, by have := HP.out.1; omega, HWD.out, (down_go (fun x => !ltInt x r[a]!) r iC jD HP.out.1 (by have := HP.out.1; have := hai; omega) (by have := HP.out.2; rw [HG.out, HG.out] at this; exact this)).symm.trans HSD.out⟩, rfl⟩)
                      case measure => have := HP.out.1; have := hai; simp [intOf]; omega
                    | false =>
                      have HID := Lib.hid (show jD = scanDown (fun x => !ltInt x r[a]!) r iC j by
                        rw [← HSD.out]
                        exact (down_end (fun x => !ltInt x r[a]!) r iC jD (by have := HTD.out.symm; rw [HG.out, HG.out] at this; exact this)).symm)
                      clear HTD HSD
                      clear cwC cw
                      have hjb2 : jD < b := by omega
                      have HE2 := Lib.hid (partLoop_eq ltInt a i j r)
                      by_cases hlt : jD < iC
                      · have t1 : (iC : Int) > (jD : Int) := by omega
                        have t2 : (jD : Int) < (iC : Int) := by omega
                        have HR2 := Lib.hid (show RowTo blk off w wD d r by rw [HWD.out, HWC.out, World.drewN_drewN]; exact HR.out.drewN _)
                        have hja : a ≤ jD := by omega
                        have cj := cwD jD (by omega)
                        have ca := cwD a (by omega)
                        obtain ⟨-, fw9⟩ := row_cells (HR2.out.holds hblk HH.out) G HG.out
                        rw [HR2.out.size] at fw9
                        have fj := fw9 jD (by omega)
                        have fa := fw9 a (by omega)
                        obtain ⟨v', hy'⟩ := cell?_setCell_some (p := ⟨blk, off + jD, none⟩) (x := .int .u64 (G a)) (q := ⟨blk, off + a, none⟩) ca
                        have HZ := Lib.hid ((HR2.out.swap hblk (i := jD) (j := a) (x := U (G a)) (y := U (G jD)) (by omega) (by omega) (by rw [HG.out]) (by rw [HG.out])).drew)
                        clear fw9 cwD
                        go_wp2
                        go_region
                        all_goals go_wp2
                        go_ret2
                        have e : partition ltInt d a b pivot = (jD, false, swp r jD a) := by rw [HP9.out]; rw [show R = (jD, r) by rw [← HE.out, HE2.out, ← HIC.out, ← HID.out, if_pos hlt]]
                        rw [e]
                        exact ⟨rfl, HZ.out⟩

                      · have t1 : ¬ (iC : Int) > (jD : Int) := by omega
                        have t2 : ¬ (jD : Int) < (iC : Int) := by omega
                        have HLT := Lib.hid (apart (fun x => ltInt x r[a]!) r j i iC jD (by omega) HIC.out HID.out (by omega))
                        have hlt2 := HLT.out
                        have ci := cwD iC (by omega)
                        have cj := cwD jD (by omega)
                        have HR2 := Lib.hid (show RowTo blk off w wD d r by rw [HWD.out, HWC.out, World.drewN_drewN]; exact HR.out.drewN _)
                        obtain ⟨-, fw2⟩ := row_cells (HR2.out.holds hblk HH.out) G HG.out
                        rw [HR2.out.size] at fw2
                        have fi := fw2 iC (by omega)
                        have fj := fw2 jD (by omega)
                        clear fw2 cwD
                        go_wp2
                        go_region
                        all_goals go_wp2
                        go_roundw
                        case rel => first | exact ⟨iC + 1, jD - 1, swp r iC jD, by go_num, by go_num, by omega, by omega, by omega, (HR2.out.swap hblk (by omega) (by omega) (by rw [HG.out]) (by rw [HG.out])).drew, by rw [← HE.out, HE2.out, ← HIC.out, ← HID.out, if_neg hlt]⟩ | ((repeat apply Exists.intro); exact ⟨⟨iC + 1, jD - 1, swp r iC jD, by go_num, by go_num, by omega, by omega, by omega, (HR2.out.swap hblk (by omega) (by omega) (by rw [HG.out]) (by rw [HG.out])).drew, by rw [← HE.out, HE2.out, ← HIC.out, ← HID.out, if_neg hlt]⟩, rfl⟩)
                        case measure => simp [intOf]; omega
end Go.Proofs.Ytplfnjpoikhmbaa.Nt
