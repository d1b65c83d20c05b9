/-
  Counters (layer 12): the walk of CounterOwn where the number is added. No condition.
-/
import Derived.Test.YtloackmpmhgkeaaCntOwn
open Go Go.RowKit Go.Maps
namespace Go.Proofs.Ytloackmpmhgkeaa.Cnt
open Base Mp

theorem own_same {l l1 : List CntD} {k : Key} {u d : Nat} (hm : may l = true) (hm1 : may l1 = true) (h : fOf l1 = addF (fOf l) k u d) {i j : Nat} (hi : i < l.length) (hj : j < l1.length) (hb : (l1[j]).by_ = (l[i]).by_) (hk : ¬ (l[i]).by_ = k) : l1[j] = l[i] := by
  have e1 := may_fOf hm1 j hj
  have e2 := may_fOf hm i hi
  rw [h, hb] at e1
  unfold addF at e1
  rw [if_neg hk, e2] at e1
  injection e1 with e3 e4
  cases hx : l1[j]
  cases hy : l[i]
  rw [hx, hy] at hb e3 e4
  simp only at hb e3 e4
  rw [hb, e3, e4]

set_option maxRecDepth 100000 in
set_option maxHeartbeats 8000000 in
theorem Own_yes (w : World) (p : Option Addr) (cap : Nat) (l : List CntD) (k o : Key) (n : Int) (h : CntsArg w p l) (la : ¬ 60 < (l.length : Int)) (hm : may l = true) (n1 : -9223372036854775808 ≤ n) (n2 : n ≤ 9223372036854775807)
    (hr : -9223372036854775808 ≤ valE l + n ∧ valE l + n ≤ 9223372036854775807) (hfit : (fOf l k).1 + n.toNat ≤ 2 ^ 63 ∧ (fOf l k).2 + (-n).toNat ≤ 2 ^ 63) (hk : k.length ≤ maxLen) (ho : o.length ≤ maxLen) :
    Calls Try.prog 6 #[.slice p l.length cap, .string (B k), .string (B o), .int .i64 n] w fun e w' => e = .returned (.bool true) ∧ Below w.heap.size w w' := by
  have HA := Lib.hid h
  have H1 := Lib.hid (May_f w p cap l HA.out (by omega))
  rw [hm] at H1
  have HM := Lib.hid hm
  have HV := valE_in l
  have HR := Lib.hid hr
  have HFIT := Lib.hid hfit
  have HK := Lib.hid hk
  have HO := Lib.hid ho
  clear h hm hr hfit hk ho
  go_enter Try.func6, Try.ntmps6
  go_wp2_with (go_at_call 7; with_reducible refine (Long_f _ _ _ _).mono ?_; rintro e w' ⟨rfl, rfl⟩)
  with_reducible refine H1.out.mono ?_
  rintro e w1 ⟨rfl, hb1⟩
  have HB1 := Lib.hid hb1
  have HA1 := Lib.hid (HA.out.below hb1)
  clear hb1 H1
  go_wp2_with fail
  with_reducible refine (Value_f w1 p cap l HA1.out (by omega)).mono ?_
  rintro e w2 ⟨rfl, hb2⟩
  have HB2 := Lib.hid (later HB1.out hb2)
  have HA2 := Lib.hid (HA1.out.below hb2)
  clear hb2 HB1 HA1
  have H3 := Lib.hid (Add_f w2 p cap l k n HA2.out (by omega) HK.out n1 n2 HR.out HFIT.out)
  go_wp2_with fail
  with_reducible refine H3.out.mono ?_
  rintro e w3 ⟨v, rfl, hg⟩
  obtain ⟨p1, c1, l1, rfl, a1, k1, b1, o1⟩ := hg.open
  have HB3 := Lib.hid (later HB2.out o1)
  have HA3 := Lib.hid (HA2.out.below o1)
  have HL1 := Lib.hid a1
  have HC1 := Lib.hid k1
  have HVAL := Lib.hid (show valE l1 = valE l + n by
    have hf := HFIT.out
    have hr := HR.out
    rw [add_valE HA.out.ok a1.ok k1.fn (by omega) (by omega) (by omega)]
    omega)
  clear a1 k1 o1 HB2 HA2 H3
  have H4 := Lib.hid (Value_f w3 p1 c1 l1 HL1.out (by omega))
  rw [HVAL.out] at H4
  obtain ⟨r1, r2⟩ := HR.out
  obtain ⟨v1, v2⟩ := HV
  have HVA := Lib.hid (rfl : valE l = valE l)
  generalize hva : valE l = va at *
  have HVL := Lib.hid hva
  clear hva HVA
  go_wp2_with fail
  with_reducible refine H4.out.mono ?_
  rintro e w4 ⟨rfl, hb4⟩
  have HB4 := Lib.hid (later HB3.out hb4)
  have HA4 := Lib.hid (HA3.out.below hb4)
  have HL4 := Lib.hid (HL1.out.below hb4)
  clear hb4 HB3 HA3 HL1 H4
  have H5 := Lib.hid (May_f w4 p1 c1 l1 HL4.out (by omega))
  rw [HC1.out.may] at H5
  go_wp2_with fail
  with_reducible refine H5.out.mono ?_
  rintro e w5 ⟨rfl, hb5⟩
  have HB5 := Lib.hid (later HB4.out hb5)
  have HA5 := Lib.hid (HA4.out.below hb5)
  have HL5 := Lib.hid (HL4.out.below hb5)
  clear hb5 HB4 HA4 HL4 H5
  go_wp2_with fail
  have hle : (l.length : Int) ≤ 60 := by omega
  go_loopw [17] (fun x wr => ∃ i q : Nat, x = .int .i64 (i : Int) ∧ i ≤ l.length ∧ wr = w5.drewN q) (fun x _ => l.length - (intOf x).toNat)
  case atStart => exact ⟨0, 0, rfl, Nat.zero_le _, rfl⟩
  case round =>
    obtain ⟨i, q, rfl, hi, rfl⟩ := hrel
    by_cases hlt : i < l.length
    · have HLT := Lib.hid hlt
      go_wp2_with fail
      go_loopw [18] (fun x wr => ∃ j q : Nat, x = .int .i64 (j : Int) ∧ j ≤ l1.length ∧ wr = w5.drewN q) (fun x _ => l1.length - (intOf x).toNat)
      case atStart => exact ⟨0, q, rfl, Nat.zero_le _, rfl⟩
      case round =>
        obtain ⟨j, q, rfl, hj, rfl⟩ := hrel
        by_cases hlt2 : j < l1.length
        · have HSAME := Lib.hid (fun hb hk => own_same HM.out HC1.out.may HC1.out.fn HLT.out hlt2 hb hk)
          have HLT2 := Lib.hid hlt2
          obtain ⟨bb, oo, rfl, ⟨x0, x1, x2⟩, -⟩ := HA5.out i HLT.out
          obtain ⟨bb1, oo1, rfl, ⟨y0, y1, y2⟩, -⟩ := HL5.out j hlt2
          have hi0 : 0 ≤ (i : Int) := by omega
          have hi1 : (i : Int) < (l.length : Int) := by omega
          have hj0 : 0 ≤ (j : Int) := by omega
          have hj1 : (j : Int) < (l1.length : Int) := by omega
          generalize l[i] = c at *
          generalize l1[j] = d at *
          obtain ⟨cb, cp, cm⟩ := c
          obtain ⟨db, dp, dm⟩ := d
          simp only at x0 x1 x2 y0 y1 y2
          by_cases hbb : db = cb
          · subst hbb
            by_cases hdc : dp = cp ∧ dm = cm
            · obtain ⟨rfl, rfl⟩ := hdc
              go_wp2_with fail
              go_quiet (fail)
              go_wp2
              go_roundw
              case rel => exact ⟨j + 1, _, by go_num, HLT2.out, rfl⟩
              case measure => have := HLT2.out; simp [intOf]; omega
            · obtain rfl : db = k := Classical.byContradiction fun hk => hdc (by have := HSAME.out rfl hk; injection this with _ h2 h3; exact ⟨h2, h3⟩)
              clear HSAME
              by_cases hp0 : dp = cp
              all_goals
                first
                | (have t1 : ((dp : Int) == (cp : Int)) = false := by simp; omega)
                | (have hm0 : ¬ dm = cm := fun e => hdc ⟨hp0, e⟩
                   have t1 : ((dm : Int) == (cm : Int)) = false := by simp; omega
                   have t2 : ((dp : Int) == (cp : Int)) = true := by simp; omega
                   clear hm0)
                clear hdc hp0
                go_wp2_with fail
                go_quiet (fail)
                go_wp2
                go_roundw
                case rel => exact ⟨j + 1, _, by go_num, HLT2.out, rfl⟩
                case measure => have := HLT2.out; simp [intOf]; omega
          · have t0 : (db == cb) = false := by simpa using hbb
            clear hbb
            go_wp2_with fail
            go_quiet (fail)
            go_wp2
            go_roundw
            case rel => exact ⟨j + 1, _, by go_num, HLT2.out, rfl⟩
            case measure => have := HLT2.out; simp [intOf]; omega
        · obtain rfl : j = l1.length := by omega
          go_wp2
          go_roundw
          case rel => exact ⟨i + 1, _, by go_num, HLT.out, rfl⟩
          case measure => have := HLT.out; simp [intOf]; omega
    · obtain rfl : i = l.length := by omega
      have HBQ := Lib.hid (HB5.out.drewN q)
      have HAQ := Lib.hid (HA5.out.drewN q)
      have HLQ := Lib.hid (HL5.out.drewN q)
      clear HA5 HL5 HB5
      generalize w5.drewN q = w5 at *
      by_cases m1 : n = -9223372036854775808
      · have t1 : (n == (-9223372036854775808 : Int)) = true := by simpa using m1
        clear m1 r1 r2
        go_wp2_with fail
        with_reducible refine (Alive_f _).mono ?_
        rintro e w6 ⟨rfl, hb6⟩
        have HB6 := Lib.hid (later HBQ.out hb6)
        clear hb6
        go_wp2
        go_ret
        exact ⟨rfl, HB6.out⟩
      · have t1 : (n == (-9223372036854775808 : Int)) = false := by simpa using m1
        clear m1
        by_cases m2 : 2305843009213693952 < n
        · clear r1 r2
          go_wp2_with fail
          with_reducible refine (Alive_f _).mono ?_
          rintro e w6 ⟨rfl, hb6⟩
          have HB6 := Lib.hid (later HBQ.out hb6)
          clear hb6
          go_wp2
          go_ret
          exact ⟨rfl, HB6.out⟩
        · by_cases m3 : n < -2305843009213693952
          · clear r1 r2
            go_wp2_with fail
            with_reducible refine (Alive_f _).mono ?_
            rintro e w6 ⟨rfl, hb6⟩
            have HB6 := Lib.hid (later HBQ.out hb6)
            clear hb6
            go_wp2
            go_ret
            exact ⟨rfl, HB6.out⟩
          · by_cases m4 : 2305843009213693952 < va
            · clear r1 r2
              go_wp2_with fail
              with_reducible refine (Alive_f _).mono ?_
              rintro e w6 ⟨rfl, hb6⟩
              have HB6 := Lib.hid (later HBQ.out hb6)
              clear hb6
              go_wp2
              go_ret
              exact ⟨rfl, HB6.out⟩
            · by_cases m5 : va < -2305843009213693952
              · clear r1 r2
                go_wp2_with fail
                with_reducible refine (Alive_f _).mono ?_
                rintro e w6 ⟨rfl, hb6⟩
                have HB6 := Lib.hid (later HBQ.out hb6)
                clear hb6
                go_wp2
                go_ret
                exact ⟨rfl, HB6.out⟩
              · have HVA1 := Lib.hid (show valE l1 = va + n from HVAL.out)
                have hr2 : -9223372036854775808 ≤ valE l1 + -n ∧ valE l1 + -n ≤ 9223372036854775807 := by rw [HVA1.out]; omega
                by_cases hf2 : (fOf l1 o).1 + (-n).toNat ≤ 2 ^ 63 ∧ (fOf l1 o).2 + (- -n).toNat ≤ 2 ^ 63
                · have H7 := Lib.hid (Add_f w5 p1 c1 l1 o (-n) HLQ.out (by omega) HO.out (by omega) (by omega) hr2 hf2)
                  have HF2 := Lib.hid hf2
                  clear hf2 hr2
                  go_wp2_with fail
                  with_reducible refine H7.out.mono ?_
                  rintro e w7 ⟨v, rfl, hg⟩
                  obtain ⟨p8, c8, l8, rfl, a8, k8, b8, o8⟩ := hg.open
                  have hv8 : valE l8 = va := by
                    have hf := HF2.out
                    have := add_valE HLQ.out.ok a8.ok k8.fn (by omega) (by omega) (by rw [HVA1.out]; omega)
                    rw [this, HVA1.out]
                    omega
                  have H8 := Lib.hid (Value_f w7 p8 c8 l8 a8 (by omega))
                  rw [hv8] at H8
                  have HB7 := Lib.hid (later HBQ.out o8)
                  clear a8 k8 o8 hv8 H7 HBQ HLQ HAQ b8
                  go_wp2_with fail
                  with_reducible refine H8.out.mono ?_
                  rintro e w8 ⟨rfl, hb8⟩
                  have HBQ := Lib.hid (later HB7.out hb8)
                  clear hb8 H8 HB7
                  go_wp2_with fail
                  with_reducible refine (Alive_f _).mono ?_
                  rintro e w6 ⟨rfl, hb6⟩
                  have HB6 := Lib.hid (later HBQ.out hb6)
                  clear hb6
                  go_wp2
                  go_ret
                  exact ⟨rfl, HB6.out⟩
                · have H7 := Lib.hid (Add_full w5 p1 c1 l1 o (-n) HLQ.out (by omega) HO.out (by omega) (by omega) hr2 (by omega))
                  clear hf2 hr2
                  go_wp2_with fail
                  with_reducible refine H7.out.mono ?_
                  rintro e w7 ⟨rfl, hb7⟩
                  have HB7 := Lib.hid (later HBQ.out hb7)
                  clear hb7 H7 HBQ
                  have HBQ := HB7
                  clear HB7
                  go_wp2_with fail
                  with_reducible refine (Alive_f _).mono ?_
                  rintro e w6 ⟨rfl, hb6⟩
                  have HB6 := Lib.hid (later HBQ.out hb6)
                  clear hb6
                  go_wp2
                  go_ret
                  exact ⟨rfl, HB6.out⟩

end Go.Proofs.Ytloackmpmhgkeaa.Cnt
