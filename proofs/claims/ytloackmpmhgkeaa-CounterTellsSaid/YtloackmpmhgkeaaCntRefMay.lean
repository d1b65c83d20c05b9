/-
  The document's counters (layer 12): May, fits.
-/
import Derived.Test.YtloackmpmhgkeaaCntSame
open Go Go.RowKit Go.Maps
namespace Go.Proofs.Ytloackmpmhgkeaa.Cnt
open Base Mp

set_option maxHeartbeats 1000000 in
theorem RMay_f (w : World) (p : Option Addr) (cap : Nat) (l : List CntD) (hp : CntsArg w p l) (hn : l.length ≤ 4398046511104) :
    Calls Try.prog 12 #[.slice p l.length cap] w fun e w' => e = .returned (.bool (may l)) ∧ Below w.heap.size w w' := by
  have HP := Lib.hid hp
  clear hp
  go_enter Try.func12, Try.ntmps12
  go_wp2_with fail
  go_loopw [3] (fun u wr => ∃ i n : Nat, u = .int .i64 (i : Int) ∧ i ≤ l.length ∧ (∀ j (h : j < l.length), j < i → ¬ (l[j].plus = 0 ∧ l[j].minus = 0) ∧ ∀ _h0 : 0 < j, l[j - 1].by_ < l[j].by_) ∧ wr = w.drewN n) (fun u _ => l.length - (intOf u).toNat)
  case atStart => exact ⟨0, 0, rfl, Nat.zero_le _, fun j _ h => absurd h (by omega), rfl⟩
  case round =>
    obtain ⟨i, n, rfl, hi, hall, rfl⟩ := hrel
    have HALL := Lib.hid hall
    clear hall
    by_cases hlt : i < l.length
    · obtain ⟨b1, o1, rfl, ⟨c0, c1, c2⟩, -⟩ := HP.out i hlt
      have HST := Lib.hid (may_step HALL.out hlt)
      have HNO := Lib.hid (fun h => (may_adj l).1 h i hlt)
      have hi0 : 0 ≤ (i : Int) := by omega
      have hi1 : (i : Int) < (l.length : Int) := by omega
      have HLT := Lib.hid hlt
      have HPREV := Lib.hid (fun k (_ : i = k + 1) (hkl : k < l.length) => (show ∃ b o, (some ⟨b1, o1, none⟩ : Option Addr) = some ⟨b, o, none⟩ ∧ CntAt w b (o + k * 3) l[k] from by
        obtain ⟨b, o, h1, h2, -⟩ := HP.out k hkl
        exact ⟨b, o, h1, h2⟩))
      generalize hgi : l[i] = c at *
      clear hgi
      by_cases hz : c.plus = 0 ∧ c.minus = 0
      · obtain ⟨z1, z2⟩ := hz
        rw [z1] at c1
        rw [z2] at c2
        go_wp2_with fail
        go_quiet (fail)
        go_wp2
        go_ret
        refine ⟨?_, ((Below.refl _ _).drewN _).drewN _⟩
        have hmf : may l = false := by
          cases hm : may l
          · rfl
          · exact absurd ⟨z1, z2⟩ (HNO.out hm).1
        rw [hmf]; rfl
      · rcases Nat.eq_zero_or_pos i with h0 | h0
        · subst h0
          simp only [Nat.zero_mul, Nat.add_zero] at c0 c1 c2
          have HZ := Lib.hid hz
          by_cases p0 : c.plus = 0
          all_goals
            first
            | (have t3 : ((c.plus : Int) == 0) = false := by simpa using p0)
            | (have q0 : ¬ c.minus = 0 := fun e => hz ⟨p0, e⟩
               have t1 : ((c.plus : Int) == 0) = true := by simpa using p0
               have t2 : ((c.minus : Int) == 0) = false := by simpa using q0
               clear q0)
            clear hz p0
            go_wp2_with fail
            go_quiet (fail)
            go_wp2
            go_roundw
            case rel => exact ⟨1, _, by go_num, HLT.out, HST.out HZ.out (fun h => absurd h (by omega)), rfl⟩
            case measure => have := HLT.out; simp [intOf]; omega
        · obtain ⟨k, rfl⟩ : ∃ k, i = k + 1 := ⟨i - 1, by omega⟩
          obtain ⟨b, o, hbo, hd⟩ := HPREV.out k rfl (by have := HLT.out; omega)
          injection hbo with hbo
          injection hbo with hbo1 hbo2
          subst hbo1 hbo2
          have hd0 := hd.c0
          have hk0 : 0 ≤ (k : Int) := by omega
          have hk1 : (k : Int) < (l.length : Int) := by have := HLT.out; omega
          have hkl : k < l.length := by have := HLT.out; omega
          have HPL := Lib.hid (show l[k + 1 - 1]'(by omega) = l[k] from rfl)
          generalize hgd : l[k] = d at *
          have HZ := Lib.hid hz
          clear hd
          have IW := IntWalk.i64_in ((k : Int) + 1 - 1) (by omega)
          have hk2 : (k : Int) + 1 - 1 = (k : Int) := by omega
          by_cases hlk : d.by_ < c.by_
          · have hbl : Op.bytesLess c.by_ d.by_ = false := by rw [bytesLess_eq]; exact decide_eq_false (fun h => List.lt_irrefl _ (List.lt_trans h hlk))
            have hbe : (c.by_ == d.by_) = false := by
              cases hx : c.by_ == d.by_
              · rfl
              · have := eq_of_beq hx
                rw [this] at hlk
                exact absurd hlk (List.lt_irrefl _)
            by_cases p0 : c.plus = 0
            all_goals
              first
              | (have t3 : ((c.plus : Int) == 0) = false := by simpa using p0)
              | (have q0 : ¬ c.minus = 0 := fun e => hz ⟨p0, e⟩
                 have t1 : ((c.plus : Int) == 0) = true := by simpa using p0
                 have t2 : ((c.minus : Int) == 0) = false := by simpa using q0
                 clear q0)
              have HLK := Lib.hid hlk
              clear hz p0 hlk
              go_wp2_with fail
              go_quiet (fail)
              go_wp2
              go_roundw
              case rel => exact ⟨k + 1 + 1, _, by go_num, HLT.out, HST.out HZ.out (fun _ => by rw [HPL.out]; exact HLK.out), rfl⟩
              case measure => have := HLT.out; simp [intOf]; omega
          · have hmf : may l = false := by
              cases hm : may l
              · rfl
              · have h1 := (HNO.out hm).2 (by omega)
                rw [HPL.out] at h1
                exact absurd h1 hlk
            have HMF := Lib.hid hmf
            clear hmf
            have hbl : (Op.bytesLess c.by_ d.by_ || c.by_ == d.by_) = true := by
              rw [bytesLess_eq]
              rcases Classical.em (c.by_ < d.by_) with h | h
              · simp [h]
              · have : c.by_ = d.by_ := List.le_antisymm (List.not_lt.1 hlk) (List.not_lt.1 h)
                simp [this]
            by_cases p0 : c.plus = 0
            all_goals
              first
              | (have t3 : ((c.plus : Int) == 0) = false := by simpa using p0)
              | (have q0 : ¬ c.minus = 0 := fun e => hz ⟨p0, e⟩
                 have t1 : ((c.plus : Int) == 0) = true := by simpa using p0
                 have t2 : ((c.minus : Int) == 0) = false := by simpa using q0
                 clear q0)
              clear hz p0 hlk
              go_wp2_with fail
              go_quiet (fail)
              go_wp2
              go_ret
              exact ⟨by rw [HMF.out]; rfl, ((Below.refl _ _).drewN _).drewN _⟩
    · obtain rfl : i = l.length := by omega
      have HM := Lib.hid ((may_adj l).2 fun j hj => HALL.out j hj hj)
      go_wp2
      go_ret
      exact ⟨by rw [HM.out]; rfl, (Below.refl _ _).drewN _⟩
theorem Fits_yes (a b : Int) (a1 : -9223372036854775808 ≤ a) (a2 : a ≤ 9223372036854775807) (b1 : -9223372036854775808 ≤ b) (b2 : b ≤ 9223372036854775807) (hr : -9223372036854775808 ≤ a + b ∧ a + b ≤ 9223372036854775807) (w : World) :
    Calls Try.prog 26 #[.int .i64 a, .int .i64 b] w fun e w' => e = .returned (.bool true) ∧ w = w' := by
  obtain ⟨r1, r2⟩ := hr
  by_cases x1 : 0 < a
  all_goals
    by_cases y1 : 0 < b
    all_goals
      by_cases x2 : a < 0
      all_goals
        by_cases y2 : b < 0
        all_goals
          first
          | (exfalso; omega)
          | (first
             | (have q2 : decide (a + b ≤ 0) = false := decide_eq_false (by omega))
             | skip
             first
             | (have q3 : decide (0 ≤ a + b) = false := decide_eq_false (by omega))
             | skip
             go_enter Try.func26, Try.ntmps26
             go_wp2
             all_goals (go_ret; exact ⟨rfl, rfl⟩))
theorem Fits_no (a b : Int) (a1 : -9223372036854775808 ≤ a) (a2 : a ≤ 9223372036854775807) (b1 : -9223372036854775808 ≤ b) (b2 : b ≤ 9223372036854775807) (hr : ¬ (-9223372036854775808 ≤ a + b ∧ a + b ≤ 9223372036854775807)) (w : World) :
    Calls Try.prog 26 #[.int .i64 a, .int .i64 b] w fun e w' => e = .returned (.bool false) ∧ w = w' := by
  have hcase : (0 < a ∧ 0 < b ∧ wrap64 (a + b) ≤ 0) ∨ (a < 0 ∧ b < 0 ∧ 0 ≤ wrap64 (a + b)) := by unfold wrap64; omega
  clear hr
  rcases hcase with ⟨x, y, z⟩ | ⟨x, y, z⟩
  all_goals
    go_enter Try.func26, Try.ntmps26
    go_wp2
    go_ret
    exact ⟨rfl, rfl⟩
end Go.Proofs.Ytloackmpmhgkeaa.Cnt
