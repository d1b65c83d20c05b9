/-
  Counters (layer 12): the walk of CounterTells. No condition.
-/
import Derived.Test.YtloackmpmhgkeaaCntRefAdd
import Derived.Test.YtloackmpmhgkeaaCntRefJoin
import Derived.Test.YtloackmpmhgkeaaCntAlive
open Go Go.RowKit Go.Maps
namespace Go.Proofs.Ytloackmpmhgkeaa.Cnt
open Base Mp

def Bad (l : List CntD) (k : Key) (n : Int) : Prop := ¬ (-9223372036854775808 ≤ valE l + n ∧ valE l + n ≤ 9223372036854775807) ∨ 2 ^ 63 < (fOf l k).1 + n.toNat ∨ 2 ^ 63 < (fOf l k).2 + (-n).toNat
def AddRel (l : List CntD) (k : Key) (n : Int) (m : List CntD) (er : Int) : Prop := (Bad l k n ∧ m = [] ∧ er = 9) ∨ (¬ Bad l k n ∧ er = 0 ∧ may m = true ∧ fOf m = addF (fOf l) k n.toNat (-n).toNat)
theorem may_unique {a b : List CntD} (ha : may a = true) (hb : may b = true) (h : fOf a = fOf b) : a = b := (may_canon ha).unique (by rw [h]; exact may_canon hb)
theorem AddRel.unique {l : List CntD} {k : Key} {n : Int} {m m' : List CntD} {er er' : Int} (h : AddRel l k n m er) (h' : AddRel l k n m' er') : m = m' ∧ er = er' := by
  rcases h with ⟨h1, h2, h3⟩ | ⟨h1, h2, h3, h4⟩
  · rcases h' with ⟨_, k2, k3⟩ | ⟨k1, _⟩
    · exact ⟨h2.trans k2.symm, h3.trans k3.symm⟩
    · exact absurd h1 k1
  · rcases h' with ⟨k1, _⟩ | ⟨_, k2, k3, k4⟩
    · exact absurd k1 h1
    · exact ⟨may_unique h3 k3 (h4.trans k4.symm), h2.trans k2.symm⟩
theorem nilArg (w : World) : CntsArg w none [] := fun j hj => by simp at hj
theorem Add_any (w : World) (p : Option Addr) (cap : Nat) (l : List CntD) (k : Key) (n : Int) (h : CntsArg w p l) (hn : l.length ≤ 4398046511000) (hk : k.length ≤ maxLen) (n1 : -9223372036854775808 ≤ n) (n2 : n ≤ 9223372036854775807) :
    Calls Try.prog 9 #[.slice p l.length cap, .string (B k), .int .i64 n] w fun e w' => ∃ q c m er, e = .returned (.tuple #[.slice q m.length c, .int .i64 er]) ∧ CntsArg w' q m ∧ AddRel l k n m er ∧ m.length ≤ l.length + 2 ∧ Below w.heap.size w w' := by
  by_cases hr : -9223372036854775808 ≤ valE l + n ∧ valE l + n ≤ 9223372036854775807
  · by_cases hf : (fOf l k).1 + n.toNat ≤ 2 ^ 63 ∧ (fOf l k).2 + (-n).toNat ≤ 2 ^ 63
    · refine (Add_f w p cap l k n h (by omega) hk n1 n2 hr hf).mono ?_
      rintro e w' ⟨v, rfl, q, c, m, rfl, h1, h2, h3, h4⟩
      exact ⟨q, c, m, 0, rfl, h1, .inr ⟨fun hb => hb.elim (fun x => x hr) (fun x => by omega), rfl, h2.may, h2.fn⟩, by omega, h4⟩
    · refine (Add_full w p cap l k n h (by omega) hk n1 n2 hr (by omega)).mono ?_
      rintro e w' ⟨rfl, hb⟩
      exact ⟨none, 0, [], 9, rfl, nilArg _, .inl ⟨.inr (by omega), rfl, rfl⟩, by simp, hb⟩
  · refine (Add_over w p cap l k n h (by omega) n1 n2 hr).mono ?_
    rintro e w' ⟨rfl, hb⟩
    exact ⟨none, 0, [], 9, rfl, nilArg _, .inl ⟨.inl hr, rfl, rfl⟩, by simp, hb⟩
theorem RAdd_any (w : World) (p : Option Addr) (cap : Nat) (l : List CntD) (k : Key) (n : Int) (h : CntsArg w p l) (hn : l.length ≤ 4398046511000) (hk : k.length ≤ maxLen) (n1 : -9223372036854775808 ≤ n) (n2 : n ≤ 9223372036854775807) :
    Calls Try.prog 10 #[.slice p l.length cap, .string (B k), .int .i64 n] w fun e w' => ∃ q c m er, e = .returned (.tuple #[.slice q m.length c, .int .i64 er]) ∧ CntsArg w' q m ∧ AddRel l k n m er ∧ m.length ≤ l.length + 2 ∧ Below w.heap.size w w' := by
  by_cases hr : -9223372036854775808 ≤ valE l + n ∧ valE l + n ≤ 9223372036854775807
  · by_cases hf : (fOf l k).1 + n.toNat ≤ 2 ^ 63 ∧ (fOf l k).2 + (-n).toNat ≤ 2 ^ 63
    · refine (RAdd_yes w p cap l k n h hn n1 n2 hr hf hk).mono ?_
      rintro e w' ⟨q, c, m, rfl, h1, h2, h3, h4, h5⟩
      exact ⟨q, c, m, 0, rfl, h1, .inr ⟨fun hb => hb.elim (fun x => x hr) (fun x => by omega), rfl, h2, h3⟩, by omega, h5⟩
    · refine (RAdd_full w p cap l k n h hn n1 n2 hr (by omega)).mono ?_
      rintro e w' ⟨rfl, hb⟩
      exact ⟨none, 0, [], 9, rfl, nilArg _, .inl ⟨.inr (by omega), rfl, rfl⟩, by simp, hb⟩
  · refine (RAdd_over w p cap l k n h hn n1 n2 hr).mono ?_
    rintro e w' ⟨rfl, hb⟩
    exact ⟨none, 0, [], 9, rfl, nilArg _, .inl ⟨.inl hr, rfl, rfl⟩, by simp, hb⟩

set_option maxHeartbeats 4000000 in
theorem CounterTells_calls (w : World) (pa pb : Option Addr) (ca cb : Nat) (a b : List CntD) (k : Key) (n : Int) (ha : CntsArg w pa a) (hb : CntsArg w pb b) (hk : k.length ≤ maxLen) (n1 : -9223372036854775808 ≤ n) (n2 : n ≤ 9223372036854775807) :
    Calls Try.prog 3 #[.slice pa a.length ca, .slice pb b.length cb, .string (B k), .int .i64 n] w fun e w' => e = .returned (.bool true) ∧ Below w.heap.size w w' := by
  have HA := Lib.hid ha
  have HB := Lib.hid hb
  have HK := Lib.hid hk
  clear ha hb hk
  by_cases la : 60 < (a.length : Int)
  · go_enter Try.func3, Try.ntmps3
    go_wp2_with (first
      | (go_at_call 7; with_reducible refine (Long_f _ _ _ _).mono ?_; rintro e w' ⟨rfl, rfl⟩)
      | (go_at_call 8; with_reducible refine (Alive_f _).mono ?_; rintro e w' ⟨rfl, hb⟩))
    go_ret
    exact ⟨rfl, by assumption⟩
  · by_cases lb : 60 < (b.length : Int)
    · go_enter Try.func3, Try.ntmps3
      go_wp2_with (first
        | (go_at_call 7; with_reducible refine (Long_f _ _ _ _).mono ?_; rintro e w' ⟨rfl, rfl⟩)
        | (go_at_call 8; with_reducible refine (Alive_f _).mono ?_; rintro e w' ⟨rfl, hb⟩))
      go_ret
      exact ⟨rfl, by assumption⟩
    · have na : a.length ≤ 60 := by omega
      have nb : b.length ≤ 60 := by omega
      go_enter Try.func3, Try.ntmps3
      go_wp2_with (go_at_call 7; with_reducible refine (Long_f _ _ _ _).mono ?_; rintro e w' ⟨rfl, rfl⟩)
      with_reducible refine (Add_any w pa ca a k n HA.out (by omega) HK.out n1 n2).mono ?_
      rintro e w1 ⟨q1, c1, m1, r1, rfl, h1, ar1, le1, o1⟩
      have HAR := Lib.hid ar1
      have HM1 := Lib.hid h1
      have HB1 := Lib.hid o1
      have HA1 := Lib.hid (HA.out.below o1)
      clear h1 ar1 o1
      go_wp2_with fail
      with_reducible refine (RAdd_any w1 pa ca a k n HA1.out (by omega) HK.out n1 n2).mono ?_
      rintro e w2 ⟨q2, c2, m2, r2, rfl, h2, ar2, le2, o2⟩
      obtain ⟨rfl, rfl⟩ := HAR.out.unique ar2
      have HM1' := Lib.hid (HM1.out.below o2)
      have HM2 := Lib.hid h2
      have HB2 := Lib.hid (later HB1.out o2)
      have HA2 := Lib.hid (HA1.out.below o2)
      clear h2 ar2 o2 HM1 HB1 HA1
      go_wp2_with fail
      with_reducible refine (May_f w2 pa ca a HA2.out (by omega)).mono ?_
      rintro e w3 ⟨rfl, o3⟩
      have HM1 := Lib.hid (HM1'.out.below o3)
      have HM2' := Lib.hid (HM2.out.below o3)
      have HB3 := Lib.hid (later HB2.out o3)
      have HA3 := Lib.hid (HA2.out.below o3)
      clear o3 HM1' HM2 HB2 HA2
      go_wp2_with fail
      with_reducible refine (RMay_f w3 pa ca a HA3.out (by omega)).mono ?_
      rintro e w4 ⟨rfl, o4⟩
      have HM1' := Lib.hid (HM1.out.below o4)
      have HM2 := Lib.hid (HM2'.out.below o4)
      have HB4 := Lib.hid (later HB3.out o4)
      have HA4 := Lib.hid (HA3.out.below o4)
      clear o4 HM1 HM2' HB3 HA3
      go_wp2_with fail
      with_reducible refine (Value_f w4 pa ca a HA4.out (by omega)).mono ?_
      rintro e w5 ⟨rfl, o5⟩
      have HM1 := Lib.hid (HM1'.out.below o5)
      have HM2' := Lib.hid (HM2.out.below o5)
      have HB5 := Lib.hid (later HB4.out o5)
      have HA5 := Lib.hid (HA4.out.below o5)
      clear o5 HM1' HM2 HB4 HA4
      go_wp2_with fail
      with_reducible refine (RValue_f w5 pa ca a HA5.out (by omega)).mono ?_
      rintro e w6 ⟨rfl, o6⟩
      have HM1' := Lib.hid (HM1.out.below o6)
      have HM2 := Lib.hid (HM2'.out.below o6)
      have HB6 := Lib.hid (later HB5.out o6)
      have HA6 := Lib.hid (HA5.out.below o6)
      clear o6 HM1 HM2' HB5 HA5
      go_wp2_with fail
      with_reducible refine (Same_yes w6 q1 q2 c1 c2 m1 HM1'.out HM2.out (by omega)).mono ?_
      rintro e w7 ⟨rfl, n7, hw7⟩
      have o7 : Below w6.heap.size w6 w7 := by rw [hw7]; exact (Below.refl _ _).drewN _
      have HB7 := Lib.hid (later HB6.out o7)
      have HA7 := Lib.hid (HA6.out.below o7)
      clear o7 hw7 HM1' HM2 HB6 HA6
      have HBB7 := Lib.hid (HB.out.below HB7.out)
      go_wp2_with fail
      with_reducible refine (Join_f w7 pa pb ca cb a b HA7.out HBB7.out (by omega)).mono ?_
      rintro e w8 ⟨v, rfl, hg⟩
      obtain ⟨p8, c8, l8, rfl, a8, n8, b8, o8⟩ := hg.open
      have HC8 := Lib.hid n8
      have HL8 := Lib.hid a8
      have HB8 := Lib.hid (later HB7.out o8)
      have HA8 := Lib.hid (HA7.out.below o8)
      have HBB8 := Lib.hid (HBB7.out.below o8)
      clear n8 a8 o8 HB7 HA7 HBB7
      go_wp2_with fail
      with_reducible refine (RJoin_f w8 pa pb ca cb a b HA8.out HBB8.out (by omega)).mono ?_
      rintro e w9 ⟨p9, c9, l9, rfl, a9, m9, f9, b9, o9⟩
      obtain rfl : l8 = l9 := may_unique HC8.out.may m9 (HC8.out.fn.trans f9.symm)
      have HL8' := Lib.hid (HL8.out.below o9)
      have HL9 := Lib.hid a9
      have HB9 := Lib.hid (later HB8.out o9)
      have HA9 := Lib.hid (HA8.out.below o9)
      clear a9 m9 f9 o9 HL8 HB8 HA8 HBB8 HC8
      go_wp2_with fail
      with_reducible refine (Same_yes w9 p8 p9 c8 c9 l8 HL8'.out HL9.out (by omega)).mono ?_
      rintro e w10 ⟨rfl, n10, hw10⟩
      have o10 : Below w9.heap.size w9 w10 := by rw [hw10]; exact (Below.refl _ _).drewN _
      have HB10 := Lib.hid (later HB9.out o10)
      have HA10 := Lib.hid (HA9.out.below o10)
      clear o10 hw10 HL8' HL9 HB9 HA9
      go_wp2_with fail
      with_reducible refine (Fold_f w10 pa ca a k HA10.out (by omega) HK.out).mono ?_
      rintro e w11 ⟨v, rfl, hg⟩
      obtain ⟨p11, c11, l11, rfl, a11, n11, b11, o11⟩ := hg.open
      have HC11 := Lib.hid n11
      have HL11 := Lib.hid a11
      have HB11 := Lib.hid (later HB10.out o11)
      have HA11 := Lib.hid (HA10.out.below o11)
      clear n11 a11 o11 HB10 HA10
      go_wp2_with fail
      with_reducible refine (RFold_f w11 pa ca a k HA11.out (by omega) HK.out).mono ?_
      rintro e w12 ⟨p12, c12, l12, rfl, a12, m12, f12, b12, o12⟩
      obtain rfl : l11 = l12 := may_unique HC11.out.may m12 (HC11.out.fn.trans f12.symm)
      have HL11' := Lib.hid (HL11.out.below o12)
      have HL12 := Lib.hid a12
      have HB12 := Lib.hid (later HB11.out o12)
      clear a12 m12 f12 o12 HL11 HB11 HA11 HC11
      go_wp2_with fail
      with_reducible refine (Same_yes w12 p11 p12 c11 c12 l11 HL11'.out HL12.out (by omega)).mono ?_
      rintro e w13 ⟨rfl, n13, hw13⟩
      have HB13 := Lib.hid (later HB12.out (show Below w12.heap.size w12 w13 by rw [hw13]; exact (Below.refl _ _).drewN _))
      clear hw13 HL11' HL12 HB12
      go_wp2_with fail
      with_reducible refine (Alive_f w13).mono ?_
      rintro e w14 ⟨rfl, o14⟩
      have HB14 := Lib.hid (later HB13.out o14)
      clear o14
      go_wp2
      go_ret
      exact ⟨rfl, HB14.out⟩

end Go.Proofs.Ytloackmpmhgkeaa.Cnt
