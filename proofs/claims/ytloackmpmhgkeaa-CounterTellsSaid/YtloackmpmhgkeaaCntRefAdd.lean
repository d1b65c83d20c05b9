/-
  The document's counters (layer 12): Add.
-/
import Derived.Test.YtloackmpmhgkeaaCntRefFold
import Derived.Test.YtloackmpmhgkeaaCntRefMay
open Go Go.RowKit Go.Maps
namespace Go.Proofs.Ytloackmpmhgkeaa.Cnt
open Base Mp


set_option maxHeartbeats 4000000 in
theorem RAdd_over (w : World) (p : Option Addr) (cap : Nat) (l : List CntD) (k : Key) (n : Int) (h : CntsArg w p l) (hn : l.length ≤ 4398046511000) (n1 : -9223372036854775808 ≤ n) (n2 : n ≤ 9223372036854775807)
    (hbad : ¬ (-9223372036854775808 ≤ valE l + n ∧ valE l + n ≤ 9223372036854775807)) :
    Calls Try.prog 10 #[.slice p l.length cap, .string (B k), .int .i64 n] w fun e w' => e = .returned (.tuple #[.slice none 0 0, .int .i64 9]) ∧ Below w.heap.size w w' := by
  have HA := Lib.hid h
  have HOF := Lib.hid (Of_f w p cap l k h (by omega))
  have HV := valE_in l
  have HBAD := Lib.hid hbad
  clear h hbad
  unfold cntV u64 at HOF
  go_enter Try.func10, Try.ntmps10
  go_wp2_with fail
  with_reducible refine HOF.out.mono ?_
  rintro e w1 ⟨rfl, hb1⟩
  have hal := (Below.refl w1.heap.size w1).alloc (Nat.le_refl _) (.cells #[.string (B k), .int .u64 ((fOf l k).1 : Int), .int .u64 ((fOf l k).2 : Int)] 43)
  have HB2 := Lib.hid ((Below.trans hb1 (hal.mono hb1.size)))
  clear hal hb1 HOF
  go_wp2_with fail
  with_reducible refine (RValue_f _ p cap l (HA.out.below HB2.out) (by omega)).mono ?_
  rintro e w3 ⟨rfl, hb3⟩
  have HB3 := Lib.hid (later HB2.out hb3)
  clear hb3 HB2
  have HF := Lib.hid (Fits_no (valE l) n HV.1 HV.2 n1 n2 HBAD.out w3)
  go_wp2_with fail
  with_reducible refine HF.out.mono ?_
  rintro e w4 ⟨rfl, rfl⟩
  go_wp2
  go_ret2
  exact ⟨rfl, HB3.out⟩
set_option maxHeartbeats 8000000 in
theorem RAdd_full (w : World) (p : Option Addr) (cap : Nat) (l : List CntD) (k : Key) (n : Int) (h : CntsArg w p l) (hn : l.length ≤ 4398046511000) (n1 : -9223372036854775808 ≤ n) (n2 : n ≤ 9223372036854775807)
    (hr : -9223372036854775808 ≤ valE l + n ∧ valE l + n ≤ 9223372036854775807) (hbad : 2 ^ 63 < (fOf l k).1 + n.toNat ∨ 2 ^ 63 < (fOf l k).2 + (-n).toNat) :
    Calls Try.prog 10 #[.slice p l.length cap, .string (B k), .int .i64 n] w fun e w' => e = .returned (.tuple #[.slice none 0 0, .int .i64 9]) ∧ Below w.heap.size w w' := by
  have HA := Lib.hid h
  have HOF := Lib.hid (Of_f w p cap l k h (by omega))
  have HV := valE_in l
  have HR := Lib.hid hr
  have HBD := Lib.hid (mx_bound h.ok k)
  have HBAD := Lib.hid hbad
  clear h hbad hr
  unfold cntV u64 at HOF
  go_enter Try.func10, Try.ntmps10
  go_wp2_with fail
  with_reducible refine HOF.out.mono ?_
  rintro e w1 ⟨rfl, hb1⟩
  have hal := (Below.refl w1.heap.size w1).alloc (Nat.le_refl _) (.cells #[.string (B k), .int .u64 ((fOf l k).1 : Int), .int .u64 ((fOf l k).2 : Int)] 43)
  have hcs := cells_made w1 #[.string (B k), .int .u64 ((fOf l k).1 : Int), .int .u64 ((fOf l k).2 : Int)] 43
  have hd1 := (hcs 1 (by simp)).1
  have hd2 := (hcs 2 (by simp)).1
  have HB2 := Lib.hid ((Below.trans hb1 (hal.mono hb1.size)))
  clear hal hb1 HOF hcs
  have HRV := Lib.hid (RValue_f _ p cap l (HA.out.below HB2.out) (by omega))
  go_wp2_with fail
  generalize w1.alloc (.cells #[.string (B k), .int .u64 ((fOf l k).1 : Int), .int .u64 ((fOf l k).2 : Int)] 43) = w2 at *
  with_reducible refine HRV.out.mono ?_
  rintro e w3 ⟨rfl, hb3⟩
  have HB3 := Lib.hid (later HB2.out hb3)
  have e1 := (hb3.cell (p := ⟨w1.heap.size, 1, none⟩) (lt_of_cell hd1)).trans hd1
  have e2 := (hb3.cell (p := ⟨w1.heap.size, 2, none⟩) (lt_of_cell hd2)).trans hd2
  clear hb3 HB2 hd1 hd2 HRV
  have HF := Lib.hid (Fits_yes (valE l) n HV.1 HV.2 n1 n2 HR.out w3)
  go_wp2_with fail
  with_reducible refine HF.out.mono ?_
  rintro e w4 ⟨rfl, rfl⟩
  have hbad := HBAD.out
  obtain ⟨P0, M0⟩ := HBD.out
  change (fOf l k).1 < 2 ^ 64 at P0
  change (fOf l k).2 < 2 ^ 64 at M0
  clear HF HBAD HBD HR HV
  generalize (fOf l k).1 = P at *
  generalize (fOf l k).2 = M at *
  have hcase : 0 < n ∨ n = 0 ∨ n < 0 := by omega
  rcases hcase with hp | hp | hp
  · obtain ⟨u, rfl⟩ : ∃ u : Nat, n = (u : Int) := ⟨n.toNat, by omega⟩
    have e0 : (-(u : Int)).toNat = 0 := by omega
    rw [e0] at hbad
    simp only [Int.toNat_natCast] at hbad
    clear e0
    by_cases a1 : 9223372036854775808 < P
    · clear hbad
      go_wp2
      all_goals (go_ret2; exact ⟨rfl, HB3.out⟩)
    · by_cases a3 : 9223372036854775808 < M
      · clear hbad
        go_wp2
        all_goals (go_ret2; exact ⟨rfl, HB3.out⟩)
      · by_cases a2 : 9223372036854775808 < P + u
        · first
          | (exfalso; omega)
          | (have a2' : 9223372036854775808 - (P : Int) < ((u : Nat) : Int) := by omega
             clear hbad a2
             go_wp2
             all_goals (go_ret2; exact ⟨rfl, HB3.out⟩))
        · first
          | (exfalso; omega)
          | (have a2' : ((u : Nat) : Int) ≤ 9223372036854775808 - (P : Int) := by omega
             have a4 : 9223372036854775808 - (M : Int) < ((0 : Nat) : Int) := by omega
             clear hbad a2
             go_wp2
             all_goals (go_ret2; exact ⟨rfl, HB3.out⟩))
  · subst hp
    simp only [Int.neg_zero, Int.toNat_zero] at hbad
    by_cases a1 : 9223372036854775808 < P
    · clear hbad
      go_wp2
      all_goals (go_ret2; exact ⟨rfl, HB3.out⟩)
    · by_cases a3 : 9223372036854775808 < M
      · clear hbad
        go_wp2
        all_goals (go_ret2; exact ⟨rfl, HB3.out⟩)
      · by_cases a2 : 9223372036854775808 < P + 0
        · first
          | (exfalso; omega)
          | (have a2' : 9223372036854775808 - (P : Int) < ((0 : Nat) : Int) := by omega
             clear hbad a2
             go_wp2
             all_goals (go_ret2; exact ⟨rfl, HB3.out⟩))
        · first
          | (exfalso; omega)
          | (have a2' : ((0 : Nat) : Int) ≤ 9223372036854775808 - (P : Int) := by omega
             have a4 : 9223372036854775808 - (M : Int) < ((0 : Nat) : Int) := by omega
             clear hbad a2
             go_wp2
             all_goals (go_ret2; exact ⟨rfl, HB3.out⟩))
  · obtain ⟨d, rfl⟩ : ∃ d : Nat, n = -(d : Int) := ⟨(-n).toNat, by omega⟩
    have e0 : (-(d : Int)).toNat = 0 := by omega
    have e3 : (- -(d : Int)).toNat = d := by omega
    rw [e0, e3] at hbad
    have hw1 : IntKind.u64.wrap (wrap64 (d : Int)) = (d : Int) := by rw [wrap_u64]; unfold wrap64; omega
    have hw2 : IntKind.u64.wrap (d : Int) = (d : Int) := by rw [wrap_u64]; omega
    clear e0 e3
    by_cases a1 : 9223372036854775808 < P
    · clear hbad
      go_wp2
      all_goals (go_ret2; exact ⟨rfl, HB3.out⟩)
    · by_cases a3 : 9223372036854775808 < M
      · clear hbad
        go_wp2
        all_goals (go_ret2; exact ⟨rfl, HB3.out⟩)
      · by_cases a2 : 9223372036854775808 < P + 0
        · first
          | (exfalso; omega)
          | (have a2' : 9223372036854775808 - (P : Int) < ((0 : Nat) : Int) := by omega
             clear hbad a2
             go_wp2
             all_goals (go_ret2; exact ⟨rfl, HB3.out⟩))
        · first
          | (exfalso; omega)
          | (have a2' : ((0 : Nat) : Int) ≤ 9223372036854775808 - (P : Int) := by omega
             have a4 : 9223372036854775808 - (M : Int) < ((d : Nat) : Int) := by omega
             clear hbad a2
             go_wp2
             all_goals (go_ret2; exact ⟨rfl, HB3.out⟩))
set_option maxHeartbeats 8000000 in
theorem RAdd_yes (w : World) (p : Option Addr) (cap : Nat) (l : List CntD) (k : Key) (n : Int) (h : CntsArg w p l) (hn : l.length ≤ 4398046511000) (n1 : -9223372036854775808 ≤ n) (n2 : n ≤ 9223372036854775807)
    (hr : -9223372036854775808 ≤ valE l + n ∧ valE l + n ≤ 9223372036854775807) (hfit : (fOf l k).1 + n.toNat ≤ 2 ^ 63 ∧ (fOf l k).2 + (-n).toNat ≤ 2 ^ 63) (hk : k.length ≤ maxLen) :
    Calls Try.prog 10 #[.slice p l.length cap, .string (B k), .int .i64 n] w fun e w' => ∃ q' cap2 m, e = .returned (.tuple #[.slice q' m.length cap2, .int .i64 0]) ∧ CntsArg w' q' m ∧ may m = true ∧ fOf m = addF (fOf l) k n.toNat (-n).toNat ∧ m.length ≤ l.length + 1 ∧ Below w.heap.size w w' := by
  have HA := Lib.hid h
  have HK := Lib.hid hk
  clear hk
  have HOF := Lib.hid (Of_f w p cap l k h (by omega))
  have HV := valE_in l
  have HR := Lib.hid hr
  have HBD := Lib.hid (mx_bound h.ok k)
  have HFIT := Lib.hid hfit
  clear h hfit hr
  unfold cntV u64 at HOF
  go_enter Try.func10, Try.ntmps10
  go_wp2_with fail
  with_reducible refine HOF.out.mono ?_
  rintro e w1 ⟨rfl, hb1⟩
  have hal := (Below.refl w1.heap.size w1).alloc (Nat.le_refl _) (.cells #[.string (B k), .int .u64 ((fOf l k).1 : Int), .int .u64 ((fOf l k).2 : Int)] 43)
  have hcs := cells_made w1 #[.string (B k), .int .u64 ((fOf l k).1 : Int), .int .u64 ((fOf l k).2 : Int)] 43
  have hd0 := (hcs 0 (by simp)).1
  have hd1 := (hcs 1 (by simp)).1
  have hf1 := (hcs 1 (by simp)).2
  have hf2 := (hcs 2 (by simp)).2
  have hd2 := (hcs 2 (by simp)).1
  have HB2 := Lib.hid ((Below.trans hb1 (hal.mono hb1.size)))
  have HW1 := Lib.hid hb1.size
  clear hal hb1 HOF hcs
  have HRV := Lib.hid (RValue_f _ p cap l (HA.out.below HB2.out) (by omega))
  go_wp2_with fail
  generalize w1.alloc (.cells #[.string (B k), .int .u64 ((fOf l k).1 : Int), .int .u64 ((fOf l k).2 : Int)] 43) = w2 at *
  with_reducible refine HRV.out.mono ?_
  rintro e w3 ⟨rfl, hb3⟩
  have HB3 := Lib.hid (later HB2.out hb3)
  have e0 := (hb3.cell (p := ⟨w1.heap.size, 0, none⟩) (lt_of_cell hd0)).trans hd0
  have k1 := (hb3.frozen (p := ⟨w1.heap.size, 1, none⟩) (show w1.heap.size < w2.heap.size from lt_of_cell hd0)).trans hf1
  have k2 := (hb3.frozen (p := ⟨w1.heap.size, 2, none⟩) (show w1.heap.size < w2.heap.size from lt_of_cell hd0)).trans hf2
  have hlt3 : w.heap.size ≤ w1.heap.size := HW1.out
  have e1 := (hb3.cell (p := ⟨w1.heap.size, 1, none⟩) (lt_of_cell hd1)).trans hd1
  have e2 := (hb3.cell (p := ⟨w1.heap.size, 2, none⟩) (lt_of_cell hd2)).trans hd2
  clear hb3 HB2 hd0 hd1 hd2 hf1 hf2 HRV HW1
  have HF := Lib.hid (Fits_yes (valE l) n HV.1 HV.2 n1 n2 HR.out w3)
  go_wp2_with fail
  with_reducible refine HF.out.mono ?_
  rintro e w4 ⟨rfl, rfl⟩
  have hfit := HFIT.out
  obtain ⟨P0, M0⟩ := HBD.out
  change (fOf l k).1 < 2 ^ 64 at P0
  change (fOf l k).2 < 2 ^ 64 at M0
  clear HF HFIT HBD HR HV
  have HFF := Lib.hid (show ∀ u d : Nat, (fOf l k).1 + u ≤ 2 ^ 63 → (fOf l k).2 + d ≤ 2 ^ 63 → setF (fOf l) k ((fOf l k).1 + u, (fOf l k).2 + d) = addF (fOf l) k u d from fun u d h1 h2 => by
    funext j
    unfold setF addF tog
    rw [Nat.mod_eq_of_lt (by omega), Nat.mod_eq_of_lt (by omega)])
  generalize (fOf l k).1 = P at *
  generalize (fOf l k).2 = M at *
  have hcase : 0 < n ∨ n = 0 ∨ n < 0 := by omega
  rcases hcase with hp | hp | hp
  · obtain ⟨u, rfl⟩ : ∃ u : Nat, n = (u : Int) := ⟨n.toNat, by omega⟩
    have z0 : (-(u : Int)).toNat = 0 := by omega
    rw [z0] at hfit
    simp only [Int.toNat_natCast] at hfit
    have Z := Lib.hid (show ((u : Int)).toNat = u ∧ (-(u : Int)).toNat = 0 from ⟨by simp, z0⟩)
    clear z0
    obtain ⟨ft1, ft2⟩ := hfit
    have a1 : (P : Int) ≤ 9223372036854775808 := by omega
    have a3 : (M : Int) ≤ 9223372036854775808 := by omega
    have a2' : ((u : Nat) : Int) ≤ 9223372036854775808 - (P : Int) := by omega
    have a4 : ((0 : Nat) : Int) ≤ 9223372036854775808 - (M : Int) := by omega
    have HFT := Lib.hid (And.intro ft1 ft2)
    clear ft1 ft2
    go_wp2_with fail
    have b1 : w1.heap.size ≠ w1.heap.size + 1 := by omega
    have d0 : ((w3.setCell ⟨w1.heap.size, 1, none⟩ (.int .u64 ((P : Int) + (u : Int)))).setCell ⟨w1.heap.size, 2, none⟩ (.int .u64 ((M : Int)))).cell? ⟨w1.heap.size, 0, none⟩ = some (.string (B k)) :=
      (World.cell?_setCell_other _ _ _ _ (by simp)).trans ((World.cell?_setCell_other _ _ _ _ (by simp)).trans e0)
    have d1 : ((w3.setCell ⟨w1.heap.size, 1, none⟩ (.int .u64 ((P : Int) + (u : Int)))).setCell ⟨w1.heap.size, 2, none⟩ (.int .u64 ((M : Int)))).cell? ⟨w1.heap.size, 1, none⟩ = some (.int .u64 ((P : Int) + (u : Int))) :=
      (World.cell?_setCell_other _ _ _ _ (by simp)).trans (World.cell?_setCell_same _ _ _ e1)
    have d2 : ((w3.setCell ⟨w1.heap.size, 1, none⟩ (.int .u64 ((P : Int) + (u : Int)))).setCell ⟨w1.heap.size, 2, none⟩ (.int .u64 ((M : Int)))).cell? ⟨w1.heap.size, 2, none⟩ = some (.int .u64 ((M : Int))) :=
      World.cell?_setCell_same _ _ _ ((World.cell?_setCell_other _ _ _ _ (by simp)).trans e2)
    have HB4 := Lib.hid ((HB3.out.setCell (p := ⟨w1.heap.size, 1, none⟩) hlt3 (.int .u64 ((P : Int) + (u : Int)))).setCell (p := ⟨w1.heap.size, 2, none⟩) hlt3 (.int .u64 ((M : Int))))
    clear b1 e0 e1 e2 k1 k2 hlt3 a1 a3 a2' a4 HB3
    generalize ((w3.setCell ⟨w1.heap.size, 1, none⟩ (.int .u64 ((P : Int) + (u : Int)))).setCell ⟨w1.heap.size, 2, none⟩ (.int .u64 ((M : Int)))) = w4 at *
    have HD := Lib.hid (And.intro d0 (And.intro d1 (And.intro d2 (lt_of_cell d0))))
    have HCL := Lib.hid (Clean_f w4.drew p cap l ((HA.out.below HB4.out).below (Below.refl _ _).drew) (by omega))
    have HPQ := Lib.hid (Put_n k (P + u) (M) ⟨HK.out, by have := HFT.out; simp only; omega, by have := HFT.out; simp only; omega⟩)
    simp only [Int.natCast_add] at HPQ
    go_region_with (first
      | (go_at_call 28; (with_reducible refine HCL.out.mono ?_); rintro e w5 ⟨q5, c5, m5, rfl, hq5, hm5, hf5, hl5, hb5⟩; have u0 := (hb5.cell (p := ⟨w1.heap.size, 0, none⟩) HD.out.2.2.2).trans HD.out.1; have u1 := (hb5.cell (p := ⟨w1.heap.size, 1, none⟩) HD.out.2.2.2).trans HD.out.2.1; have u2 := (hb5.cell (p := ⟨w1.heap.size, 2, none⟩) HD.out.2.2.2).trans HD.out.2.2.1)
      | (go_at_call 27; (with_reducible refine (HPQ.out _ q5 c5 m5 hq5 (by omega)).mono ?_); rintro e w6 ⟨q6, c6, rfl, hq6, hb6⟩))
    all_goals
      have hfin : fOf (putR m5 ⟨k, P + u, M⟩) = addF (fOf l) k u 0 := by
        rw [putR_f _ hm5, hf5]
        exact HFF.out u 0 HFT.out.1 HFT.out.2
      have hfin2 : fOf (putR m5 ⟨k, P + u, M⟩) = addF (fOf l) k ((u : Int)).toNat (-((u : Int))).toNat := by rw [Z.out.1, Z.out.2]; exact hfin
      have HX := Lib.hid (And.intro hq6 (And.intro (putR_may ⟨k, P + u, M⟩ hm5) (And.intro hfin2 (And.intro (show (putR m5 ⟨k, P + u, M⟩).length ≤ l.length + 1 by
        have h1 := putR_len m5 ⟨k, P + u, M⟩
        omega) (later (later HB4.out ((Below.refl _ w4).drew.trans hb5)) hb6)))))
      clear hq5 hm5 hf5 hl5 hb5 hq6 hb6 u0 u1 u2 d0 d1 d2 HCL HD hfin hfin2
      go_wp2
      go_ret2
      exact ⟨_, _, _, rfl, HX.out⟩
  · subst hp
    simp only [Int.neg_zero, Int.toNat_zero] at hfit
    have Z := Lib.hid (show ((0 : Int)).toNat = 0 ∧ (-(0 : Int)).toNat = 0 from ⟨rfl, rfl⟩)
    obtain ⟨ft1, ft2⟩ := hfit
    have a1 : (P : Int) ≤ 9223372036854775808 := by omega
    have a3 : (M : Int) ≤ 9223372036854775808 := by omega
    have a2' : ((0 : Nat) : Int) ≤ 9223372036854775808 - (P : Int) := by omega
    have a4 : ((0 : Nat) : Int) ≤ 9223372036854775808 - (M : Int) := by omega
    have HFT := Lib.hid (And.intro ft1 ft2)
    clear ft1 ft2
    go_wp2_with fail
    have b1 : w1.heap.size ≠ w1.heap.size + 1 := by omega
    have d0 : ((w3.setCell ⟨w1.heap.size, 1, none⟩ (.int .u64 ((P : Int)))).setCell ⟨w1.heap.size, 2, none⟩ (.int .u64 ((M : Int)))).cell? ⟨w1.heap.size, 0, none⟩ = some (.string (B k)) :=
      (World.cell?_setCell_other _ _ _ _ (by simp)).trans ((World.cell?_setCell_other _ _ _ _ (by simp)).trans e0)
    have d1 : ((w3.setCell ⟨w1.heap.size, 1, none⟩ (.int .u64 ((P : Int)))).setCell ⟨w1.heap.size, 2, none⟩ (.int .u64 ((M : Int)))).cell? ⟨w1.heap.size, 1, none⟩ = some (.int .u64 ((P : Int))) :=
      (World.cell?_setCell_other _ _ _ _ (by simp)).trans (World.cell?_setCell_same _ _ _ e1)
    have d2 : ((w3.setCell ⟨w1.heap.size, 1, none⟩ (.int .u64 ((P : Int)))).setCell ⟨w1.heap.size, 2, none⟩ (.int .u64 ((M : Int)))).cell? ⟨w1.heap.size, 2, none⟩ = some (.int .u64 ((M : Int))) :=
      World.cell?_setCell_same _ _ _ ((World.cell?_setCell_other _ _ _ _ (by simp)).trans e2)
    have HB4 := Lib.hid ((HB3.out.setCell (p := ⟨w1.heap.size, 1, none⟩) hlt3 (.int .u64 ((P : Int)))).setCell (p := ⟨w1.heap.size, 2, none⟩) hlt3 (.int .u64 ((M : Int))))
    clear b1 e0 e1 e2 k1 k2 hlt3 a1 a3 a2' a4 HB3
    generalize ((w3.setCell ⟨w1.heap.size, 1, none⟩ (.int .u64 ((P : Int)))).setCell ⟨w1.heap.size, 2, none⟩ (.int .u64 ((M : Int)))) = w4 at *
    have HD := Lib.hid (And.intro d0 (And.intro d1 (And.intro d2 (lt_of_cell d0))))
    have HCL := Lib.hid (Clean_f w4.drew p cap l ((HA.out.below HB4.out).below (Below.refl _ _).drew) (by omega))
    have HPQ := Lib.hid (Put_n k (P) (M) ⟨HK.out, by have := HFT.out; simp only; omega, by have := HFT.out; simp only; omega⟩)
    skip
    go_region_with (first
      | (go_at_call 28; (with_reducible refine HCL.out.mono ?_); rintro e w5 ⟨q5, c5, m5, rfl, hq5, hm5, hf5, hl5, hb5⟩; have u0 := (hb5.cell (p := ⟨w1.heap.size, 0, none⟩) HD.out.2.2.2).trans HD.out.1; have u1 := (hb5.cell (p := ⟨w1.heap.size, 1, none⟩) HD.out.2.2.2).trans HD.out.2.1; have u2 := (hb5.cell (p := ⟨w1.heap.size, 2, none⟩) HD.out.2.2.2).trans HD.out.2.2.1)
      | (go_at_call 27; (with_reducible refine (HPQ.out _ q5 c5 m5 hq5 (by omega)).mono ?_); rintro e w6 ⟨q6, c6, rfl, hq6, hb6⟩))
    all_goals
      have hfin : fOf (putR m5 ⟨k, P, M⟩) = addF (fOf l) k 0 0 := by
        rw [putR_f _ hm5, hf5]
        exact HFF.out 0 0 HFT.out.1 HFT.out.2
      have hfin2 : fOf (putR m5 ⟨k, P, M⟩) = addF (fOf l) k ((0 : Int)).toNat (-((0 : Int))).toNat := by rw [Z.out.1, Z.out.2]; exact hfin
      have HX := Lib.hid (And.intro hq6 (And.intro (putR_may ⟨k, P, M⟩ hm5) (And.intro hfin2 (And.intro (show (putR m5 ⟨k, P, M⟩).length ≤ l.length + 1 by
        have h1 := putR_len m5 ⟨k, P, M⟩
        omega) (later (later HB4.out ((Below.refl _ w4).drew.trans hb5)) hb6)))))
      clear hq5 hm5 hf5 hl5 hb5 hq6 hb6 u0 u1 u2 d0 d1 d2 HCL HD hfin hfin2
      go_wp2
      go_ret2
      exact ⟨_, _, _, rfl, HX.out⟩
  · obtain ⟨d, rfl⟩ : ∃ d : Nat, n = -(d : Int) := ⟨(-n).toNat, by omega⟩
    have z0 : (-(d : Int)).toNat = 0 := by omega
    have z3 : (- -(d : Int)).toNat = d := by omega
    rw [z0, z3] at hfit
    have Z := Lib.hid (And.intro z0 z3)
    have hw1 : IntKind.u64.wrap (wrap64 (d : Int)) = (d : Int) := by rw [wrap_u64]; unfold wrap64; omega
    have hw2 : IntKind.u64.wrap (d : Int) = (d : Int) := by rw [wrap_u64]; omega
    clear z0 z3
    obtain ⟨ft1, ft2⟩ := hfit
    have a1 : (P : Int) ≤ 9223372036854775808 := by omega
    have a3 : (M : Int) ≤ 9223372036854775808 := by omega
    have a2' : ((0 : Nat) : Int) ≤ 9223372036854775808 - (P : Int) := by omega
    have a4 : ((d : Nat) : Int) ≤ 9223372036854775808 - (M : Int) := by omega
    have HFT := Lib.hid (And.intro ft1 ft2)
    clear ft1 ft2
    go_wp2_with fail
    have b1 : w1.heap.size ≠ w1.heap.size + 1 := by omega
    have d0 : ((w3.setCell ⟨w1.heap.size, 1, none⟩ (.int .u64 ((P : Int)))).setCell ⟨w1.heap.size, 2, none⟩ (.int .u64 ((M : Int) + (d : Int)))).cell? ⟨w1.heap.size, 0, none⟩ = some (.string (B k)) :=
      (World.cell?_setCell_other _ _ _ _ (by simp)).trans ((World.cell?_setCell_other _ _ _ _ (by simp)).trans e0)
    have d1 : ((w3.setCell ⟨w1.heap.size, 1, none⟩ (.int .u64 ((P : Int)))).setCell ⟨w1.heap.size, 2, none⟩ (.int .u64 ((M : Int) + (d : Int)))).cell? ⟨w1.heap.size, 1, none⟩ = some (.int .u64 ((P : Int))) :=
      (World.cell?_setCell_other _ _ _ _ (by simp)).trans (World.cell?_setCell_same _ _ _ e1)
    have d2 : ((w3.setCell ⟨w1.heap.size, 1, none⟩ (.int .u64 ((P : Int)))).setCell ⟨w1.heap.size, 2, none⟩ (.int .u64 ((M : Int) + (d : Int)))).cell? ⟨w1.heap.size, 2, none⟩ = some (.int .u64 ((M : Int) + (d : Int))) :=
      World.cell?_setCell_same _ _ _ ((World.cell?_setCell_other _ _ _ _ (by simp)).trans e2)
    have HB4 := Lib.hid ((HB3.out.setCell (p := ⟨w1.heap.size, 1, none⟩) hlt3 (.int .u64 ((P : Int)))).setCell (p := ⟨w1.heap.size, 2, none⟩) hlt3 (.int .u64 ((M : Int) + (d : Int))))
    clear b1 e0 e1 e2 k1 k2 hlt3 a1 a3 a2' a4 HB3
    generalize ((w3.setCell ⟨w1.heap.size, 1, none⟩ (.int .u64 ((P : Int)))).setCell ⟨w1.heap.size, 2, none⟩ (.int .u64 ((M : Int) + (d : Int)))) = w4 at *
    have HD := Lib.hid (And.intro d0 (And.intro d1 (And.intro d2 (lt_of_cell d0))))
    have HCL := Lib.hid (Clean_f w4.drew p cap l ((HA.out.below HB4.out).below (Below.refl _ _).drew) (by omega))
    have HPQ := Lib.hid (Put_n k (P) (M + d) ⟨HK.out, by have := HFT.out; simp only; omega, by have := HFT.out; simp only; omega⟩)
    simp only [Int.natCast_add] at HPQ
    go_region_with (first
      | (go_at_call 28; (with_reducible refine HCL.out.mono ?_); rintro e w5 ⟨q5, c5, m5, rfl, hq5, hm5, hf5, hl5, hb5⟩; have u0 := (hb5.cell (p := ⟨w1.heap.size, 0, none⟩) HD.out.2.2.2).trans HD.out.1; have u1 := (hb5.cell (p := ⟨w1.heap.size, 1, none⟩) HD.out.2.2.2).trans HD.out.2.1; have u2 := (hb5.cell (p := ⟨w1.heap.size, 2, none⟩) HD.out.2.2.2).trans HD.out.2.2.1)
      | (go_at_call 27; (with_reducible refine (HPQ.out _ q5 c5 m5 hq5 (by omega)).mono ?_); rintro e w6 ⟨q6, c6, rfl, hq6, hb6⟩))
    all_goals
      have hfin : fOf (putR m5 ⟨k, P, M + d⟩) = addF (fOf l) k 0 d := by
        rw [putR_f _ hm5, hf5]
        exact HFF.out 0 d HFT.out.1 HFT.out.2
      have hfin2 : fOf (putR m5 ⟨k, P, M + d⟩) = addF (fOf l) k ((-(d : Int))).toNat (-((-(d : Int)))).toNat := by rw [Z.out.1, Z.out.2]; exact hfin
      have HX := Lib.hid (And.intro hq6 (And.intro (putR_may ⟨k, P, M + d⟩ hm5) (And.intro hfin2 (And.intro (show (putR m5 ⟨k, P, M + d⟩).length ≤ l.length + 1 by
        have h1 := putR_len m5 ⟨k, P, M + d⟩
        omega) (later (later HB4.out ((Below.refl _ w4).drew.trans hb5)) hb6)))))
      clear hq5 hm5 hf5 hl5 hb5 hq6 hb6 u0 u1 u2 d0 d1 d2 HCL HD hfin hfin2
      go_wp2
      go_ret2
      exact ⟨_, _, _, rfl, HX.out⟩

end Go.Proofs.Ytloackmpmhgkeaa.Cnt
