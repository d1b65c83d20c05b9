/-
  Scripts of a log (layer 8): the walk of Heavy. Condition: the script lies in memory, and its texts are weighed.
-/
import Derived.Test.YtpiaplgbpjgjiaaGreatDoorZLpOpen
import Derived.Test.YtpiaplgbpjgjiaaGreatDoorZLgSame
open Go Go.RowKit
namespace Go.Proofs.YtpiaplgbpjgjiaaGreatDoor.Lp
open Base Mp Dk Frame Lg

/-- What a script is that is played. -/
def LLight (l : List LStep) : Prop := l.length ≤ 150 ∧ ∀ s ∈ l, s.l.length ≤ 100 ∧ s.x.s.length ≤ 8192 ∧ s.x.keep.length ≤ 8192 ∧ weight s.l ≤ 8192
/-- The first i steps are within n. -/
def Upto (l : List LStep) (i n : Nat) : Prop := ∀ j (_ : j < i) (h : j < l.length), l[j].l.length ≤ 100 ∧ l[j].x.s.length + l[j].x.keep.length + weight l[j].l ≤ n
theorem upto_next {l : List LStep} {i n m : Nat} (h : Upto l i n) (hi : i < l.length) (h1 : l[i].l.length ≤ 100) (h2 : l[i].x.s.length + l[i].x.keep.length + weight l[i].l ≤ m) (h3 : n ≤ m) : Upto l (i + 1) m := fun j hj hl => by
  rcases Nat.lt_or_ge j i with h4 | h4
  · obtain ⟨h5, h6⟩ := h j h4 hl
    exact ⟨h5, by omega⟩
  · obtain rfl : j = i := by omega
    exact ⟨h1, h2⟩
theorem upto_light {l : List LStep} {i n : Nat} (h : Upto l i n) (hi : ¬ (i < l.length ∧ i < 500)) (hl : l.length ≤ 150) (hn : n ≤ 8192) : LLight l := ⟨hl, fun s hs => by
  obtain ⟨j, hj, rfl⟩ := List.getElem_of_mem hs
  obtain ⟨h5, h6⟩ := h j (by omega) hj
  exact ⟨h5, by omega, by omega, by omega⟩⟩
/-- What Heavy answers. -/
def HeavyPost (l : List LStep) (e : Ending) : Prop := ∃ hb : Bool, e = .returned (.bool hb) ∧ (hb = false → LLight l)
set_option maxHeartbeats 4000000 in
set_option maxRecDepth 100000 in
theorem LHeavy_f (p : Option Addr) (l : List LStep) (cap : Nat) (w : World) (hl : l.length ≤ maxLen) (h : LArg w p l) :
    Calls Tryz.prog 4 #[.slice p l.length cap] w fun e w' => HeavyPost l e ∧ Below w.heap.size w w' := by
  unfold maxLen at hl
  have HA := Lib.hid h
  clear h
  go_enter Tryz.func4, Tryz.ntmps4
  go_wp2_with fail
  go_loopw [3, 4] (fun v u wr => ∃ i n : Nat, v = .int .i64 (n : Int) ∧ u = .int .i64 (i : Int) ∧ i ≤ l.length ∧ i ≤ 500 ∧ n ≤ i * 14495961300598887 ∧ Upto l i n ∧ Below w.heap.size w wr) (fun _ u _ => l.length - (intOf u).toNat)
  case atStart => exact ⟨0, 0, rfl, rfl, Nat.zero_le _, by omega, by simp, (fun j hj => by omega), Below.refl _ _⟩
  case round =>
    obtain ⟨i, n, rfl, rfl, hi, hi5, hsum, hup, hb⟩ := hrel
    have HB := Lib.hid hb
    have HU := Lib.hid hup
    clear hb hup
    by_cases hin : i < l.length ∧ i < 500
    · obtain ⟨b, o, rfl, hs, hf⟩ := HA.out.below HB.out i hin.1
      have c1 := hs.step.c1
      have c2 := hs.step.c2
      have c5 := hs.step.c5
      have c6 := hs.c6
      have hn1 := hf.fit.name
      have hn2 := hf.fit.s
      have hn3 := hf.fit.few
      have hrow := hf.row
      have hshort := hf.short
      have hfew := hf.few
      have HN := Lib.hid (fun m h1 h2 h3 => upto_next (m := m) HU.out hin.1 h1 h2 h3)
      have HI := Lib.hid hin
      have t1 : (i : Int) < (l.length : Int) := by omega
      have t2 : (i : Int) < 500 := by omega
      have t3 : 0 ≤ (i : Int) := by omega
      clear hs hf
      generalize l[i] = x at *
      clear hin
      obtain ⟨⟨dd, nm, st, nn, yy, kk, kp, kc⟩, lt, lp, lc⟩ := x
      simp only at c1 c2 c5 c6 hn1 hn2 hn3 hrow hshort hfew HN
      have s1 : n ≤ 7247980650299443500 := Nat.le_trans hsum (by omega)
      have HSUM := Lib.hid hsum
      have HROW := Lib.hid hrow
      have HSH := Lib.hid hshort
      unfold maxLen at hfew
      clear hsum hrow hshort
      go_wp2_with fail
      go_quiet (fail)
      have HB2 := Lib.hid (HB.out.drewN nq)
      have c6d : (wr.drewN nq).cell? ⟨b, o + i * 7 + 6, none⟩ = some (.slice lp lt.length lc) := c6
      have hrow2 : RowArg (wr.drewN nq) lp (strs lt) := HROW.out
      have HROW2 := Lib.hid hrow2
      clear c1 c2 c5 c6 hrow2 HROW
      generalize wr.drewN nq = wd at *
      go_wp2_with fail
      go_loopw [3, 5] (fun v u wt => ∃ k : Nat, v = .int .i64 ((n + nm.length + st.length + kk.length + weight (lt.take k) : Nat) : Int) ∧ u = .int .i64 (k : Int) ∧ k ≤ lt.length ∧ k ≤ 500 ∧ weight (lt.take k) ≤ k * 140737488355329 ∧ wt = wd) (fun _ u _ => lt.length - (intOf u).toNat)
      case atStart => exact ⟨0, by simp [weight], rfl, Nat.zero_le _, by omega, by simp [weight], rfl⟩
      case round =>
        obtain ⟨k, rfl, rfl, hk, hk5, hws, rfl⟩ := hrel
        by_cases hkl : k < lt.length ∧ k < 500
        · obtain ⟨bs, os, rfl, hbs, hcs⟩ := HROW2.out k (by rw [strs_length]; exact hkl.1)
          rw [strs_at _ _ hkl.1] at hcs
          have t4 : (k : Int) < (lt.length : Int) := by omega
          have t5 : (k : Int) < 500 := by omega
          have t6 : 0 ≤ (k : Int) := by omega
          have HWS := Lib.hid (weight_succ lt k hkl.1)
          have hzk := HSH.out _ (List.getElem_mem hkl.1)
          have HKL := Lib.hid hkl
          generalize lt[k] = x at *
          have s2 : weight (lt.take k) ≤ 70368744177664500 := Nat.le_trans hws (by omega)
          have HW2 := Lib.hid hws
          generalize weight (lt.take k) = wk at *
          clear hws hkl
          go_wp2_with fail
          go_roundw
          case rel =>
            first
              | exact ⟨k + 1, by rw [HWS.out]; go_num, by go_num, HKL.out.1, HKL.out.2, by rw [HWS.out]; have := HW2.out; omega, by first | rfl | trivial⟩
              | ((repeat apply Exists.intro); exact ⟨⟨k + 1, by rw [HWS.out]; go_num, by go_num, HKL.out.1, HKL.out.2, by rw [HWS.out]; have := HW2.out; omega, by first | rfl | trivial⟩, rfl⟩)
          case measure => have := HKL.out; simp [intOf]; omega
        · have hg : ¬ (k : Int) < (lt.length : Int) ∨ ((k : Int) < (lt.length : Int) ∧ ¬ (k : Int) < 500) := by omega
          by_cases h100 : 100 < lt.length
          · have u1 : (100 : Int) < (lt.length : Int) := by omega
            have s2 : weight (lt.take k) ≤ 70368744177664500 := Nat.le_trans hws (by omega)
            generalize weight (lt.take k) = wk at *
            clear hws hkl
            rcases hg with hg1 | ⟨hg1, hg2⟩
            · go_wp2
              go_ret
              exact ⟨⟨true, rfl, fun e => by cases e⟩, HB2.out⟩
            · go_wp2
              go_ret
              exact ⟨⟨true, rfl, fun e => by cases e⟩, HB2.out⟩
          · obtain rfl : k = lt.length := by omega
            have hg1 : ¬ (lt.length : Int) < (lt.length : Int) := by omega
            have u1 : ¬ (100 : Int) < (lt.length : Int) := by omega
            rw [List.take_length] at hws ⊢
            have hws3 : weight lt ≤ 14073748835532900 := Nat.le_trans hws (by omega)
            have HNX := Lib.hid (HN.out (n + nm.length + st.length + kk.length + weight lt) (by omega) (by omega) (by omega))
            have HLE := Lib.hid (show n + nm.length + st.length + kk.length + weight lt ≤ (i + 1) * 14495961300598887 by have := HSUM.out; omega)
            generalize weight lt = wk at *
            clear hws hkl hg h100
            go_wp2_with fail
            go_roundw
            case rel =>
              first
                | exact ⟨i + 1, _, rfl, by go_num, HI.out.1, HI.out.2, HLE.out, HNX.out, HB2.out⟩
                | ((repeat apply Exists.intro); exact ⟨⟨i + 1, _, rfl, by go_num, HI.out.1, HI.out.2, HLE.out, HNX.out, HB2.out⟩, rfl⟩)
            case measure => have := HI.out; simp [intOf]; omega
    · have HL := Lib.hid (fun h1 h2 => upto_light HU.out hin h1 h2)
      have s1 : n ≤ 7247980650299443500 := Nat.le_trans hsum (by omega)
      have hguard : ¬ (i : Int) < (l.length : Int) ∨ ((i : Int) < (l.length : Int) ∧ ¬ (i : Int) < 500) := by omega
      clear hin hsum HU
      by_cases h150 : 150 < l.length
      · have u1 : (150 : Int) < (l.length : Int) := by omega
        rcases hguard with hg1 | ⟨hg1, hg2⟩
        · go_wp2
          go_ret
          exact ⟨⟨true, rfl, fun e => by cases e⟩, HB.out⟩
        · go_wp2
          go_ret
          exact ⟨⟨true, rfl, fun e => by cases e⟩, HB.out⟩
      · have u1 : ¬ (150 : Int) < (l.length : Int) := by omega
        have hg1 : ¬ (i : Int) < (l.length : Int) := by omega
        by_cases hbig : 8192 < n
        · have u2 : (8192 : Int) < (n : Int) := by omega
          go_wp2
          go_ret
          exact ⟨⟨true, rfl, fun e => by cases e⟩, HB.out⟩
        · have u2 : ¬ (8192 : Int) < (n : Int) := by omega
          have HL2 := Lib.hid (HL.out (by omega) (by omega))
          go_wp2
          go_ret
          exact ⟨⟨false, rfl, fun _ => HL2.out⟩, HB.out⟩
end Go.Proofs.YtpiaplgbpjgjiaaGreatDoor.Lp
