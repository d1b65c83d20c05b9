/-
  Counters (layer 12): Same, May, Long.
-/
import Derived.Test.YtloackmpmhgkeaaCntRes
import Derived.WalkLawsBesides
open Go Go.RowKit Go.Maps
namespace Go.Proofs.Ytloackmpmhgkeaa.Cnt
open Base Mp

theorem CntsArg.drewN {w : World} {p : Option Addr} {l : List CntD} (h : CntsArg w p l) (n : Nat) : CntsArg (w.drewN n) p l := fun j hj => by
  obtain ⟨b, o, h1, h2, h3⟩ := h j hj
  exact ⟨b, o, h1, ⟨h2.c0, h2.c1, h2.c2⟩, h3⟩
theorem Long_f (w : World) (p : Option Addr) (cap : Nat) (l : List CntD) :
    Calls Try.prog 7 #[.slice p l.length cap] w fun e w' => e = .returned (.bool (decide (60 < (l.length : Int)))) ∧ w = w' := by
  go_enter Try.func7, Try.ntmps7
  go_wp2
  go_ret
  exact ⟨rfl, rfl⟩
theorem Same_yes (w : World) (p q : Option Addr) (cap cap' : Nat) (l : List CntD) (hp : CntsArg w p l) (hq : CntsArg w q l) (hn : l.length ≤ 4398046511104) :
    Calls Try.prog 15 #[.slice p l.length cap, .slice q l.length cap'] w fun e w' => e = .returned (.bool true) ∧ ∃ n, w' = w.drewN n := by
  have HP := Lib.hid hp
  have HQ := Lib.hid hq
  clear hp hq
  go_enter Try.func15, Try.ntmps15
  go_wp2
  go_loopw [5] (fun u wr => ∃ i n : Nat, u = .int .i64 (i : Int) ∧ i ≤ l.length ∧ wr = w.drewN n) (fun u _ => l.length - (intOf u).toNat)
  case atStart => exact ⟨0, 0, rfl, Nat.zero_le _, rfl⟩
  case round =>
    obtain ⟨i, n, rfl, hi, rfl⟩ := hrel
    by_cases hlt : i < l.length
    · obtain ⟨b1, o1, rfl, ⟨c0, c1, c2⟩, -⟩ := HP.out i hlt
      obtain ⟨b2, o2, rfl, ⟨d0, d1, d2⟩, -⟩ := HQ.out i hlt
      have hi0 : 0 ≤ (i : Int) := by omega
      have hi1 : (i : Int) < (l.length : Int) := by omega
      generalize l[i] = c at *
      go_wp2_with fail
      go_quiet (fail)
      go_wp2
      go_roundw
      case rel => exact ⟨i + 1, _, by go_num, hlt, rfl⟩
      case measure => simp [intOf]; omega
    · obtain rfl : i = l.length := by omega
      go_wp2
      go_ret
      exact ⟨rfl, _, rfl⟩
theorem may_step {l : List CntD} {i : Nat} (h : ∀ j (h : j < l.length), j < i → ¬ (l[j].plus = 0 ∧ l[j].minus = 0) ∧ ∀ _h0 : 0 < j, l[j - 1].by_ < l[j].by_) (hi : i < l.length) (h1 : ¬ (l[i].plus = 0 ∧ l[i].minus = 0)) (h2 : ∀ _h0 : 0 < i, l[i - 1].by_ < l[i].by_) :
    ∀ j (h : j < l.length), j < i + 1 → ¬ (l[j].plus = 0 ∧ l[j].minus = 0) ∧ ∀ _h0 : 0 < j, l[j - 1].by_ < l[j].by_ := fun j hj hlt => by
  rcases Nat.lt_or_ge j i with h3 | h3
  · exact h j hj h3
  · obtain rfl : j = i := by omega
    exact ⟨h1, h2⟩
theorem May_f (w : World) (p : Option Addr) (cap : Nat) (l : List CntD) (hp : CntsArg w p l) (hn : l.length ≤ 4398046511104) :
    Calls Try.prog 11 #[.slice p l.length cap] w fun e w' => e = .returned (.bool (may l)) ∧ Below w.heap.size w w' := by
  have HP := Lib.hid hp
  clear hp
  go_enter Try.func11, Try.ntmps11
  go_wp2
  go_loopw [7] (fun u wr => ∃ i : Nat, u = .int .i64 (i : Int) ∧ i ≤ l.length ∧ (∀ j (h : j < l.length), j < i → ¬ (l[j].plus = 0 ∧ l[j].minus = 0) ∧ ∀ _h0 : 0 < j, l[j - 1].by_ < l[j].by_) ∧ Below w.heap.size w wr) (fun u _ => l.length - (intOf u).toNat)
  case atStart => exact ⟨0, rfl, Nat.zero_le _, fun j _ h => absurd h (by omega), Below.refl _ _⟩
  case round =>
    obtain ⟨i, rfl, hi, hall, hb⟩ := hrel
    have HALL := Lib.hid hall
    have HB := Lib.hid hb
    clear hall hb
    by_cases hlt : i < l.length
    · obtain ⟨b1, o1, rfl, hca, -⟩ := HP.out i hlt
      obtain ⟨c0, c1, c2⟩ := hca.below HB.out
      have HST := Lib.hid (may_step HALL.out hlt)
      have HNO := Lib.hid (fun h => (may_adj l).1 h i hlt)
      have hi0 : 0 ≤ (i : Int) := by omega
      have hi1 : (i : Int) < (l.length : Int) := by omega
      have hsz := HB.out.size
      have HLT := Lib.hid hlt
      have hb1 : b1 < wr.heap.size := lt_of_cell c0
      have HPREV := Lib.hid (fun k (_ : i = k + 1) (hkl : k < l.length) => (show ∃ b o, (some ⟨b1, o1, none⟩ : Option Addr) = some ⟨b, o, none⟩ ∧ CntAt wr b (o + k * 3) l[k] from by
        obtain ⟨b, o, h1, h2, -⟩ := HP.out k hkl
        exact ⟨b, o, h1, h2.below HB.out⟩))
      clear hca
      generalize hgi : l[i] = c at *
      have HGI := Lib.hid hgi
      clear hgi
      by_cases hz : c.plus = 0 ∧ c.minus = 0
      · obtain ⟨z1, z2⟩ := hz
        rw [z1] at c1
        rw [z2] at c2
        go_wp2_with fail
        go_quiet (fail)
        go_wp2
        go_ret
        refine ⟨?_, (HB.out.alloc hsz _).drewN _⟩
        have hmf : may l = false := by
          cases hm : may l
          · rfl
          · have h1 := (HNO.out hm).1
            exact absurd ⟨z1, z2⟩ h1
        rw [hmf]; rfl
      · rcases Nat.eq_zero_or_pos i with h0 | h0
        · subst h0
          simp only [Nat.zero_mul, Nat.add_zero] at c0 c1 c2
          have HZ := Lib.hid hz
          by_cases p0 : c.plus = 0
          all_goals
            first
            | (have t3 : ((c.plus : Int) == 0) = false := by simpa using p0)
            | (have q0 : ¬ c.minus = 0 := fun e => hz ⟨p0, e⟩
               have t1 : ((c.plus : Int) == 0) = true := by simpa using p0
               have t2 : ((c.minus : Int) == 0) = false := by simpa using q0
               clear q0)
            clear hz p0
            go_wp2_with fail
            go_quiet (fail)
            go_wp2
            go_roundw
            case rel => exact ⟨1, by go_num, HLT.out, HST.out HZ.out (fun h => absurd h (by omega)), (HB.out.alloc hsz _).drewN _⟩
            case measure => have := HLT.out; simp [intOf]; omega
        · obtain ⟨k, rfl⟩ : ∃ k, i = k + 1 := ⟨i - 1, by omega⟩
          obtain ⟨b, o, hbo, hd⟩ := HPREV.out k rfl (by have := HLT.out; omega)
          injection hbo with hbo
          injection hbo with hbo1 hbo2
          subst hbo1 hbo2
          have hd0 := hd.c0
          have hk0 : 0 ≤ (k : Int) := by omega
          have hk1 : (k : Int) < (l.length : Int) := by have := HLT.out; omega
          have hkl : k < l.length := by have := HLT.out; omega
          have HPL := Lib.hid (show l[k + 1 - 1]'(by omega) = l[k] from rfl)
          generalize hgd : l[k] = d at *
          have HZ := Lib.hid hz
          clear hd
          by_cases hlk : d.by_ < c.by_
          · have hbl : Op.bytesLess d.by_ c.by_ = true := by rw [bytesLess_eq]; exact decide_eq_true hlk
            by_cases p0 : c.plus = 0
            all_goals
              first
              | (have t3 : ((c.plus : Int) == 0) = false := by simpa using p0)
              | (have q0 : ¬ c.minus = 0 := fun e => hz ⟨p0, e⟩
                 have t1 : ((c.plus : Int) == 0) = true := by simpa using p0
                 have t2 : ((c.minus : Int) == 0) = false := by simpa using q0
                 clear q0)
              have HLK := Lib.hid hlk
              clear hz p0 hlk
              go_wp2_with fail
              go_quiet (fail)
              go_wp2
              go_roundw
              case rel => exact ⟨k + 1 + 1, by go_num, HLT.out, HST.out HZ.out (fun _ => by rw [HPL.out]; exact HLK.out), (HB.out.alloc hsz _).drewN _⟩
              case measure => have := HLT.out; simp [intOf]; omega
          · have hbl : Op.bytesLess d.by_ c.by_ = false := by rw [bytesLess_eq]; exact decide_eq_false hlk
            have hmf : may l = false := by
              cases hm : may l
              · rfl
              · have h1 := (HNO.out hm).2 (by omega)
                rw [HPL.out] at h1
                exact absurd h1 hlk
            have HMF := Lib.hid hmf
            clear hmf
            by_cases p0 : c.plus = 0
            all_goals
              first
              | (have t3 : ((c.plus : Int) == 0) = false := by simpa using p0)
              | (have q0 : ¬ c.minus = 0 := fun e => hz ⟨p0, e⟩
                 have t1 : ((c.plus : Int) == 0) = true := by simpa using p0
                 have t2 : ((c.minus : Int) == 0) = false := by simpa using q0
                 clear q0)
              clear hz p0 hlk
              go_wp2_with fail
              go_quiet (fail)
              go_wp2
              go_ret
              exact ⟨by rw [HMF.out]; rfl, (HB.out.alloc hsz _).drewN _⟩
    · obtain rfl : i = l.length := by omega
      have HM := Lib.hid ((may_adj l).2 fun j hj => HALL.out j hj hj)
      go_wp2
      go_ret
      exact ⟨by rw [HM.out]; rfl, HB.out⟩
end Go.Proofs.Ytloackmpmhgkeaa.Cnt
