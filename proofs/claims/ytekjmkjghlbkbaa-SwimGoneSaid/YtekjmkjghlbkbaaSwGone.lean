/-
  Swim (layer 22): the statement SwimGone, walked. Condition: the numbers are of their kinds.
-/
import Derived.Test.YtekjmkjghlbkbaaSwGoneM
import Derived.Deep.RegionHeld3
open Go Go.RowKit Go.Sort
namespace Go.Proofs.Ytekjmkjghlbkbaa.Sw
open Base
attribute [local go_sem ↓] Go.wp_at_zero Go.wp_at_succ

theorem firsts_succ (A : List AskD) (j : Nat) (h : j < A.length) : firsts (A.take (j + 1)) = firsts (A.take j) + (if A[j].for_ = [] then 1 else 0) := by
  unfold firsts
  rw [List.take_succ_eq_append_getElem h, List.filter_append, List.length_append]
  congr 1
  by_cases hf : A[j].for_ = [] <;> simp [hf]
set_option maxRecDepth 100000 in
set_option maxHeartbeats 8000000 in
theorem SwimGone_calls (w : World) (p t o m h r : Nat) (hp : p < 256) (ht : t < 256) (ho : o < 256) (hm : m < 256) (hh : h < 256) (hr : r < 256) : Calls Try.prog 6 #[.int .u8 (p : Int), .int .u8 (t : Int), .int .u8 (o : Int), .int .u8 (m : Int), .int .u8 (h : Int), .int .u8 (r : Int)] w fun e w' => e = .returned (.bool true) ∧ Below w.heap.size w w' := by
  have HC := Lib.hid (Conf_f w p t o hp ht ho)
  obtain ⟨P, hP⟩ : ∃ P, P = p % 12 + 2 := ⟨_, rfl⟩
  obtain ⟨T, hT⟩ : ∃ T, T = 1 + t % (p % 12 + 1) := ⟨_, rfl⟩
  obtain ⟨O, hO⟩ : ∃ O, O = o % 4 := ⟨_, rfl⟩
  rw [← hP, ← hT, ← hO] at HC
  have hP1 : 2 ≤ P ∧ P ≤ 13 := by omega
  have hT1 : 1 ≤ T ∧ T < P := by have := Nat.mod_lt t (show 0 < p % 12 + 1 by omega); omega
  have hO1 : O ≤ 3 := by omega
  obtain ⟨n, hn⟩ : ∃ n, n = m % 10 + 2 := ⟨_, rfl⟩
  have hn1 : 2 ≤ n ∧ n ≤ 11 := by omega
  have hn2 : (m : Int) % 10 + 2 = (n : Int) := by omega
  clear hP hT hO hn
  go_enter Try.func6, Try.ntmps6
  go_wp2_with fail
  with_reducible refine HC.out.mono ?_
  rintro e w1 ⟨rfl, hb1⟩
  have HB1 := Lib.hid hb1
  clear hb1 HC
  go_wp2_with fail
  have HC1 := Lib.hid (cells_made w1 #[.int .i64 (P : Int), .int .i64 (T : Int), .int .i64 (O : Int)] 25)
  have HB2 := Lib.hid (HB1.out.alloc HB1.out.size (.cells #[.int .i64 (P : Int), .int .i64 (T : Int), .int .i64 (O : Int)] 25))
  have hz1 := alloc_more w1 (.cells #[.int .i64 (P : Int), .int .i64 (T : Int), .int .i64 (O : Int)] 25)
  have HZ1 := Lib.hid hz1
  clear hz1
  have HC2 := Lib.hid (show w.heap.size ≤ w1.heap.size from HB1.out.size)
  generalize w1.alloc (.cells #[.int .i64 (P : Int), .int .i64 (T : Int), .int .i64 (O : Int)] 25) = w2 at *
  generalize w1.heap.size = c at *
  with_reducible refine (New_f w2 P T O (by omega) (by omega) (by omega) (by omega) (by omega)).mono ?_
  rintro e w3 ⟨rfl, hs0, hb0⟩
  obtain ⟨b, hb⟩ : ∃ b, b = w2.heap.size + 1 := ⟨_, rfl⟩
  rw [← hb] at hs0 ⊢
  have HS0 := Lib.hid hs0
  have HB3 := Lib.hid (HB2.out.trans (hb0.mono HB2.out.size))
  have hcb : c < w3.heap.size := by have := HZ1.out; have := hb0.size; omega
  have hbb : b < w3.heap.size := hs0.lt
  have HNE := Lib.hid (show c ≠ b by have := HZ1.out; omega)
  have HLE := Lib.hid (show w.heap.size ≤ b ∧ w.heap.size ≤ c by have := HC2.out; have := HZ1.out; omega)
  have HCP := Lib.hid (show w3.cell? ⟨c, 0, none⟩ = some (.int .i64 (P : Int)) by
    have h0 := (HC1.out 0 (by simp)).1
    exact (hb0.cell (p := ⟨c, 0, none⟩) (by have := HZ1.out; simp; omega)).trans h0)
  clear hs0 hb0 hb HB1 HB2 HC1 HZ1 HC2
  obtain ⟨q, hq⟩ : ∃ q, q = h % n := ⟨_, rfl⟩
  have hq1 : q < n := by rw [hq]; exact Nat.mod_lt _ (by omega)
  have hq2 : (h : Int) % (n : Int) = (q : Int) := by rw [hq]; push_cast; rfl
  have hq3 : IntKind.u8.wrap (q : Int) = (q : Int) := by rw [IntKind.wrap_u8]; omega
  have hcv := conv_letter w3 q (by omega)
  clear hq
  go_wp2_with fail
  have hz0 : (w3.alloc (.cells #[.int .u8 (97 + (q : Int))] 5)).heap.size = w3.heap.size + 1 := by simp
  have hbz : Below w3.heap.size w3 (w3.alloc (.cells #[.int .u8 (97 + (q : Int))] 5)) := (Below.refl _ _).alloc (Nat.le_refl _) _
  have HS1 := Lib.hid (HS0.out.next hbz)
  have HCP1 := Lib.hid ((hbz.cell (p := ⟨c, 0, none⟩) hcb).trans HCP.out)
  have HB4 := Lib.hid (HB3.out.trans (hbz.mono HB3.out.size))
  have HZ4 := Lib.hid (And.intro (show c < w3.heap.size + 1 by omega) (show b < w3.heap.size + 1 by omega))
  rw [← hz0] at HZ4
  clear hz0 hbz HS0 HCP HB3 hcv hcb hbb hq2 hq3
  generalize w3.alloc (.cells #[.int .u8 (97 + (q : Int))] 5) = w4 at *
  go_loopw [17, 18, 20] (fun va vr u wr => ∃ i : Nat, u = .int .i64 (i : Int) ∧ i ≤ n ∧ wr.ownsRow w4.heap.size 9 1 va (letters i).length ((letters i).map strC) ∧ wr.ownsRow w4.heap.size 9 1 vr (restG i q).length ((restG i q).map strC) ∧ Apart va vr ∧ Below w4.heap.size w4 wr) (fun _ _ u _ => n - (intOf u).toNat)
  case atStart => exact ⟨0, rfl, Nat.zero_le _, no_asks _ _ _ _, no_asks _ _ _ _, fun k h => (by cases h), Below.refl _ _⟩
  case round =>
    obtain ⟨i, rfl, hi, ho1, ho2, hap, hbe⟩ := hrel
    by_cases hik : i < n
    · have m0 : (i : Int) < (n : Int) := by omega
      have hcv := conv_letter wr i (by omega)
      have hz0 : (wr.alloc (.cells #[.int .u8 (97 + (i : Int))] 5)).heap.size = wr.heap.size + 1 := by simp
      obtain ⟨g, cp, w5, hr5, hoa5, hor5, hap5, hb5⟩ := append_two (wr.alloc (.cells #[.int .u8 (97 + (i : Int))] 5)) w4.heap.size (by have := hbe.size; omega) _ _ _ _ (ho1.alloc _) (ho2.alloc _) hap (letter i) (by rw [letters_len]; omega)
      rw [hz0] at hr5
      have hbe5 : Below w4.heap.size w4 w5 := (hbe.alloc hbe.size _).trans hb5
      obtain ⟨g2, cp2, w6, hr6, hoa6, hor6, hap6, hb6⟩ := append_two w5 w4.heap.size hbe5.size _ _ _ _ hor5 hoa5 hap5.symm (letter i) (by have := restG_len i q; omega)
      have HR5 := Lib.hid hr5
      have HR6 := Lib.hid hr6
      have HV5 := Lib.hid (And.intro hoa5 (And.intro hor5 (And.intro hap5 hbe5)))
      have HV6 := Lib.hid (And.intro hoa6 (And.intro hor6 (And.intro hap6 (hbe5.trans hb6))))
      clear ho1 ho2 hap hbe hr5 hr6 hoa5 hor5 hap5 hbe5 hb5 hoa6 hor6 hap6 hb6 hz0
      by_cases hiq : letter i = letter q
      · have t1 : (letter i == letter q) = true := by simpa using hiq
        have HG := Lib.hid (show restG (i + 1) q = restG i q by rw [restG_succ, if_pos hiq, List.append_nil])
        clear hiq
        go_wp2_with (at_builtin; refine wpList_append_run rfl _ _ _ rfl rfl rfl HR5.out ?_)
        go_roundw
        case rel =>
          refine ⟨i + 1, by go_num, hik, ?_, ?_, HV5.out.2.2.1, HV5.out.2.2.2⟩
          · rw [letters_succ]; exact HV5.out.1
          · rw [HG.out]; exact HV5.out.2.1
        case measure => simp [intOf]; omega
      · have t1 : (letter i == letter q) = false := by simpa using hiq
        have HG := Lib.hid (show restG (i + 1) q = restG i q ++ [letter i] by rw [restG_succ, if_neg hiq])
        clear hiq
        go_wp2_with (first | (at_builtin; refine wpList_append_run rfl _ _ _ rfl rfl rfl HR5.out ?_) | (at_builtin; refine wpList_append_run rfl _ _ _ rfl rfl rfl HR6.out ?_))
        go_roundw
        case rel =>
          refine ⟨i + 1, by go_num, hik, ?_, ?_, HV6.out.2.2.1.symm, HV6.out.2.2.2⟩
          · rw [letters_succ]; exact HV6.out.2.1
          · rw [HG.out]; exact HV6.out.1
        case measure => simp [intOf]; omega
    · obtain rfl : i = n := by omega
      generalize wr = W2 at *
      obtain ⟨qa, cA, rfl, hA⟩ := strs_form ho1
      obtain ⟨gA, rfl, hga1, hga2, _⟩ := hA 0 (by rw [letters_len]; omega)
      obtain ⟨qr, cR, rfl, hR⟩ := strs_form ho2
      obtain ⟨gR, rfl, hgr1, hgr2, _⟩ := hR 0 (restG_pos i q (by omega) (by omega) hq1)
      have HSA := Lib.hid (show StrsArg W2 (some ⟨gA, 0, none⟩) (letters i) from fun j hj => by
        obtain ⟨g', he, _, _, hc⟩ := hA j hj
        injection he with he
        injection he with he
        subst he
        exact ⟨gA, 0, rfl, by rw [Nat.zero_add]; exact hc⟩)
      have HSR := Lib.hid (show StrsArg W2 (some ⟨gR, 0, none⟩) (restG i q) from fun j hj => by
        obtain ⟨g', he, _, _, hc⟩ := hR j hj
        injection he with he
        injection he with he
        subst he
        exact ⟨gR, 0, rfl, by rw [Nat.zero_add]; exact hc⟩)
      have HGb := Lib.hid (show gA ≠ b ∧ gR ≠ b by have := HZ4.out.2; omega)
      have HSW := Lib.hid (HS1.out.next hbe)
      have HCW := Lib.hid ((hbe.cell (p := ⟨c, 0, none⟩) HZ4.out.1).trans HCP1.out)
      have HBW := Lib.hid (HB4.out.trans (hbe.mono HB4.out.size))
      have HZW := Lib.hid (show c < W2.heap.size by have := hbe.size; have := HZ4.out.1; omega)
      obtain ⟨nR, hnR⟩ : ∃ nR, nR = (restG i q).length := ⟨_, rfl⟩
      have HNR := Lib.hid hnR
      rw [letters_len, ← hnR]
      have hnR1 : 0 < nR ∧ nR ≤ 11 := by
        have h1 := restG_pos i q (by omega) (by omega) hq1
        have h2 := restG_len i q
        omega
      clear hA hR ho1 ho2 hap hbe hga1 hga2 hgr1 hgr2 HS1 HB4 HCP1 HZ4 hn2 hnR
      generalize i = n at *
      obtain ⟨N, hN⟩ : ∃ N, N = 3 * P * n := ⟨_, rfl⟩
      have hN1 : N ≤ 429 := by rw [hN]; exact Nat.mul_le_mul (show 3 * P ≤ 39 by omega) (show n ≤ 11 by omega)
      have hN2 : (3 * (P : Int)) * (n : Int) = (N : Int) := by rw [hN]; push_cast; rfl
      have HN3 := Lib.hid (show ∀ k, N ≤ k * P → n ≤ k from fun k hk => by
        have h1 : (3 * n) * P ≤ k * P := by rw [hN] at hk; rw [show 3 * n * P = 3 * P * n by rw [Nat.mul_assoc, Nat.mul_comm n P, ← Nat.mul_assoc]]; exact hk
        have := Nat.le_of_mul_le_mul_right h1 (by omega)
        omega)
      clear hN
      go_wp2_with fail
      go_loopw [22, 23] (fun u v wr => ∃ (x k : Nat) (s : SwD), u = .int .i64 (k : Int) ∧ v = .int .i64 (x : Int) ∧ x ≤ k * P ∧ k * P < x + P ∧ x ≤ N ∧ Num P T O x k s ∧ SwAt wr b s ∧ StrsArg wr (some ⟨gA, 0, none⟩) (letters n) ∧ StrsArg wr (some ⟨gR, 0, none⟩) (restG n q) ∧ wr.cell? ⟨c, 0, none⟩ = some (.int .i64 (P : Int)) ∧ Below w.heap.size w wr ∧ W2.heap.size ≤ wr.heap.size) (fun _ v _ => N - (intOf v).toNat)
      case atStart => exact ⟨0, 0, _, rfl, rfl, by omega, by omega, by omega, ⟨rfl, rfl, rfl, rfl, rfl, by simp, fun _ => rfl⟩, HSW.out, HSA.out, HSR.out, HCW.out, HBW.out, Nat.le_refl _⟩
      case round =>
        obtain ⟨x, k, s, rfl, rfl, hx1, hx2, hxN, hnm, hsw, hsa, hsr, hcw, hbw, hzw⟩ := hrel
        obtain ⟨Y, hY⟩ : ∃ Y, Y = k * P := ⟨_, rfl⟩
        have hk1 : k ≤ Y := by rw [hY]; exact Nat.le_mul_of_pos_right _ (by omega)
        rw [← hY] at hx1 hx2
        have HY := Lib.hid hY
        clear hY
        have HX := Lib.hid (And.intro hnm (And.intro hsw (And.intro hsa (And.intro hsr (And.intro hbw hzw)))))
        have hcw2 : c < wr.heap.size := Nat.lt_of_lt_of_le HZW.out hzw
        clear hnm hsw hsa hsr hbw hzw
        generalize wr = w4 at *
        by_cases hxn : x < N
        · have m0 : (x : Int) < (N : Int) := by omega
          by_cases hlf : r ≤ x
          · have l0 : (r : Int) ≤ (x : Int) := by omega
            obtain ⟨g, cp, w5, hr5, ha5, hb5, hg5⟩ := append_all w4 _ cR (restG n q) HX.out.2.2.2.1 (by rw [← HNR.out]; omega) (by rw [← HNR.out]; omega)
            have HTK := Lib.hid (Tick_all w5 b g cp P T O x k s (restG n q) x HX.out.1 (HX.out.2.1.next hb5) ha5 (by rw [← HNR.out]; omega) (by rw [← HNR.out]; omega) (restG_rise n q (by omega)) (restG_full n q) (by rw [← HY.out]; exact hx1) (by rw [← HY.out]; exact hx2) (by omega) (by omega) (by omega) (by omega))
            rw [← HNR.out] at hr5 HTK
            have HK0 := Lib.hid (And.intro (show 0 < (restG n q).length by rw [← HNR.out]; omega) (restG_full n q))
            have HR5 := Lib.hid hr5
            have HV5 := Lib.hid (And.intro ha5 hb5)
            clear hr5 ha5 hb5 hg5
            go_wp2_with (at_builtin; refine wpList_append_run rfl _ _ _ rfl rfl rfl HR5.out ?_)
            with_reducible refine HTK.out.mono ?_
            rintro e w6 ⟨s', A, L, ⟨v1, v2, rfl, r1, r2, s6, k6⟩, hre⟩
            obtain ⟨hL, hA, hF, hLl, hAl⟩ := rel_asks hre HK0.out.1 HK0.out.2 (by have := HX.out.1.others; omega)
            obtain ⟨pA, cpA, rfl, hAs⟩ := asks_form r1
            obtain ⟨pL, cpL, rfl, hLs⟩ := strs_form r2
            have HN6 := Lib.hid (HX.out.1.next hre)
            have HA := Lib.hid (And.intro hA hF)
            have HL := Lib.hid hL
            have HAs := Lib.hid hAs
            have HLs := Lib.hid hLs
            have HS6 := Lib.hid s6
            have HK6 := Lib.hid k6
            have hcw6 : w6.cell? ⟨c, 0, none⟩ = some (.int .i64 (P : Int)) := (cell_kept k6 (Nat.lt_of_lt_of_le hcw2 HV5.out.2.size) HNE.out).trans ((HV5.out.2.cell (p := ⟨c, 0, none⟩) hcw2).trans hcw)
            clear hre hL hA hF r1 r2 hAs hLs s6 k6
            go_wp2_with fail
            go_loopw [28] (fun u wr => ∃ j : Nat, u = .int .i64 (j : Int) ∧ j ≤ L.length ∧ wr = w6) (fun u _ => L.length - (intOf u).toNat)
            case atStart => exact ⟨0, rfl, Nat.zero_le _, rfl⟩
            case round =>
              obtain ⟨j, rfl, hj, rfl⟩ := hrel
              by_cases hjl : j < L.length
              · have m1 : (j : Int) < (L.length : Int) := by omega
                have m2 : 0 ≤ (j : Int) := by omega
                obtain ⟨gl, rfl, _, hgl, hcl⟩ := HLs.out j hjl
                have hne : L[j] ≠ letter q := fun e => restG_not n q (e ▸ HL.out _ (List.getElem_mem hjl))
                have hb : (L[j] == letter q) = false := by simpa using hne
                generalize L[j] = lj at *
                go_wp2_with fail
                go_roundw
                case rel => exact ⟨j + 1, by go_num, hjl, trivial⟩
                case measure => simp [intOf]; omega
              · obtain rfl : j = L.length := by omega
                clear hj hjl
                generalize wr = w7 at *
                go_wp2_with fail
                go_loopw [22, 29] (fun v u wr => ∃ j : Nat, v = .int .i64 ((k + firsts (A.take j) : Nat) : Int) ∧ u = .int .i64 (j : Int) ∧ j ≤ A.length ∧ wr = w7) (fun _ u _ => A.length - (intOf u).toNat)
                case atStart => exact ⟨0, rfl, rfl, Nat.zero_le _, rfl⟩
                case round =>
                  obtain ⟨j, rfl, rfl, hj, rfl⟩ := hrel
                  by_cases hjl : j < A.length
                  · have m1 : (j : Int) < (A.length : Int) := by omega
                    have m2 : 0 ≤ (j : Int) := by omega
                    obtain ⟨ga, rfl, _, hga, ha0, ha1, _⟩ := HAs.out j hjl
                    have HFS := Lib.hid (firsts_succ A j hjl)
                    have hfl : firsts (A.take j) ≤ A.length := Nat.le_trans (List.length_filter_le _ _) (by rw [List.length_take]; omega)
                    obtain ⟨z, hz⟩ : ∃ z, z = k + firsts (A.take j) := ⟨_, rfl⟩
                    rw [← hz]
                    have hz1 : z ≤ 8192 := by omega
                    have HZ := Lib.hid hz
                    have HAT := Lib.hid (HA.out.1 A[j] (List.getElem_mem hjl))
                    clear hz hfl
                    have ha0' : wr.cell? ⟨ga, j * 3, none⟩ = some (.string (B A[j].to)) := by rw [Nat.mul_comm]; exact ha0
                    have ha1' : wr.cell? ⟨ga, j * 3 + 1, none⟩ = some (.string (B A[j].for_)) := by rw [Nat.mul_comm]; exact ha1
                    clear ha0 ha1
                    generalize A[j] = aj at *
                    obtain ⟨ato, afor, aseq⟩ := aj
                    simp only at ha0' ha1' HAT HFS
                    have hn1' : (ato == letter q) = false := by
                      have : ato ≠ letter q := fun e => restG_not n q (e ▸ HAT.out.1)
                      simpa using this
                    have hn2' : (afor == letter q) = false := by
                      have : afor ≠ letter q := fun e => by
                        rcases HAT.out.2 with h | h
                        · rw [h] at e; cases e
                        · exact restG_not n q (e ▸ h)
                      simpa using this
                    by_cases hf : afor = []
                    · have t1 : afor.isEmpty = true := by rw [hf]; rfl
                      have HF1 := Lib.hid (show firsts (A.take (j + 1)) = firsts (A.take j) + 1 by rw [HFS.out, if_pos hf])
                      clear hf
                      go_wp2_with fail
                      go_roundw
                      case rel => exact ⟨j + 1, by rw [HF1.out, ← Nat.add_assoc, ← HZ.out]; go_num, by go_num, hjl, trivial⟩
                      case measure => simp [intOf]; omega
                    · have t1 : afor.isEmpty = false := by cases afor; exact absurd rfl hf; rfl
                      have HF1 := Lib.hid (show firsts (A.take (j + 1)) = firsts (A.take j) by rw [HFS.out, if_neg hf]; rfl)
                      clear hf
                      go_wp2_with fail
                      go_roundw
                      case rel => exact ⟨j + 1, by rw [HF1.out, ← HZ.out], by go_num, hjl, trivial⟩
                      case measure => simp [intOf]; omega
                  · obtain rfl : j = A.length := by omega
                    rw [List.take_length, HA.out.2]
                    generalize wr = w8 at *
                    go_wp2_with fail
                    go_roundw
                    case rel =>
                      have hn6 := HN6.out
                      have ha6 := (HX.out.2.2.1.below HV5.out.2).kept HK6.out HGb.out.1
                      have hr6 := (HX.out.2.2.2.1.below HV5.out.2).kept HK6.out HGb.out.2
                      have hb6 := (HX.out.2.2.2.2.1.trans (HV5.out.2.mono HX.out.2.2.2.2.1.size)).trans (HK6.out.below (fun j hj => by subst hj; exact HLE.out.1) (Nat.le_trans HX.out.2.2.2.2.1.size HV5.out.2.size))
                      have hz6 := Nat.le_trans HX.out.2.2.2.2.2 (Nat.le_trans HV5.out.2.size HK6.out.size)
                      by_cases hxk : x = k * P
                      · rw [if_pos hxk] at hn6
                        refine ⟨x + 1, k + 1, s', by rw [if_pos hxk], by go_num, ?_, ?_, by omega, hn6, HS6.out, ha6, hr6, hcw6, hb6, hz6⟩
                        · rw [Nat.succ_mul, ← HY.out]; omega
                        · rw [Nat.succ_mul, ← hxk]; omega
                      · rw [if_neg hxk] at hn6
                        refine ⟨x + 1, k, s', by rw [if_neg hxk]; rfl, by go_num, ?_, ?_, by omega, hn6, HS6.out, ha6, hr6, hcw6, hb6, hz6⟩
                        · rw [← HY.out] at hxk ⊢; omega
                        · rw [← HY.out]; omega
                    case measure => simp [intOf]; omega
          · have l0 : ¬ (r : Int) ≤ (x : Int) := by omega
            obtain ⟨g, cp, w5, hr5, ha5, hb5, hg5⟩ := append_all w4 _ cA (letters n) HX.out.2.2.1 (by rw [letters_len]; omega) (by rw [letters_len]; omega)
            have HTK := Lib.hid (Tick_all w5 b g cp P T O x k s (letters n) x HX.out.1 (HX.out.2.1.next hb5) ha5 (by rw [letters_len]; omega) (by rw [letters_len]; omega) (letters_rise n (by omega)) (letters_full n) (by rw [← HY.out]; exact hx1) (by rw [← HY.out]; exact hx2) (by omega) (by omega) (by omega) (by omega))
            rw [letters_len] at hr5 HTK
            have HK0 := Lib.hid (And.intro (show 0 < (letters n).length by rw [letters_len]; omega) (letters_full n))
            have HR5 := Lib.hid hr5
            have HV5 := Lib.hid (And.intro ha5 hb5)
            clear hr5 ha5 hb5 hg5
            go_wp2_with (at_builtin; refine wpList_append_run rfl _ _ _ rfl rfl rfl HR5.out ?_)
            with_reducible refine HTK.out.mono ?_
            rintro e w6 ⟨s', A, L, ⟨v1, v2, rfl, r1, r2, s6, k6⟩, hre⟩
            obtain ⟨hL, hA, hF, hLl, hAl⟩ := rel_asks hre HK0.out.1 HK0.out.2 (by have := HX.out.1.others; omega)
            obtain ⟨pA, cpA, rfl, hAs⟩ := asks_form r1
            obtain ⟨pL, cpL, rfl, hLs⟩ := strs_form r2
            have HN6 := Lib.hid (HX.out.1.next hre)
            have HA := Lib.hid (And.intro hA hF)
            have HL := Lib.hid hL
            have HAs := Lib.hid hAs
            have HLs := Lib.hid hLs
            have HS6 := Lib.hid s6
            have HK6 := Lib.hid k6
            have hcw6 : w6.cell? ⟨c, 0, none⟩ = some (.int .i64 (P : Int)) := (cell_kept k6 (Nat.lt_of_lt_of_le hcw2 HV5.out.2.size) HNE.out).trans ((HV5.out.2.cell (p := ⟨c, 0, none⟩) hcw2).trans hcw)
            clear hre hL hA hF r1 r2 hAs hLs s6 k6
            go_wp2_with fail
            go_loopw [28] (fun u wr => ∃ j : Nat, u = .int .i64 (j : Int) ∧ j ≤ L.length ∧ wr = w6) (fun u _ => L.length - (intOf u).toNat)
            case atStart => exact ⟨0, rfl, Nat.zero_le _, rfl⟩
            case round =>
              obtain ⟨j, rfl, hj, rfl⟩ := hrel
              by_cases hjl : j < L.length
              · have m1 : (j : Int) < (L.length : Int) := by omega
                have m2 : 0 ≤ (j : Int) := by omega
                obtain ⟨gl, rfl, _, hgl, hcl⟩ := HLs.out j hjl
                generalize L[j] = lj at *
                go_wp2_with fail
                go_roundw
                case rel => exact ⟨j + 1, by go_num, hjl, trivial⟩
                case measure => simp [intOf]; omega
              · obtain rfl : j = L.length := by omega
                clear hj hjl
                generalize wr = w7 at *
                go_wp2_with fail
                go_loopw [22, 29] (fun v u wr => ∃ j : Nat, v = .int .i64 ((k + firsts (A.take j) : Nat) : Int) ∧ u = .int .i64 (j : Int) ∧ j ≤ A.length ∧ wr = w7) (fun _ u _ => A.length - (intOf u).toNat)
                case atStart => exact ⟨0, rfl, rfl, Nat.zero_le _, rfl⟩
                case round =>
                  obtain ⟨j, rfl, rfl, hj, rfl⟩ := hrel
                  by_cases hjl : j < A.length
                  · have m1 : (j : Int) < (A.length : Int) := by omega
                    have m2 : 0 ≤ (j : Int) := by omega
                    obtain ⟨ga, rfl, _, hga, ha0, ha1, _⟩ := HAs.out j hjl
                    have HFS := Lib.hid (firsts_succ A j hjl)
                    have hfl : firsts (A.take j) ≤ A.length := Nat.le_trans (List.length_filter_le _ _) (by rw [List.length_take]; omega)
                    obtain ⟨z, hz⟩ : ∃ z, z = k + firsts (A.take j) := ⟨_, rfl⟩
                    rw [← hz]
                    have hz1 : z ≤ 8192 := by omega
                    have HZ := Lib.hid hz
                    have HAT := Lib.hid (HA.out.1 A[j] (List.getElem_mem hjl))
                    clear hz hfl
                    have ha0' : wr.cell? ⟨ga, j * 3, none⟩ = some (.string (B A[j].to)) := by rw [Nat.mul_comm]; exact ha0
                    have ha1' : wr.cell? ⟨ga, j * 3 + 1, none⟩ = some (.string (B A[j].for_)) := by rw [Nat.mul_comm]; exact ha1
                    clear ha0 ha1
                    generalize A[j] = aj at *
                    obtain ⟨ato, afor, aseq⟩ := aj
                    simp only at ha0' ha1' HAT HFS
                    by_cases hf : afor = []
                    · have t1 : afor.isEmpty = true := by rw [hf]; rfl
                      have HF1 := Lib.hid (show firsts (A.take (j + 1)) = firsts (A.take j) + 1 by rw [HFS.out, if_pos hf])
                      clear hf
                      go_wp2_with fail
                      go_roundw
                      case rel => exact ⟨j + 1, by rw [HF1.out, ← Nat.add_assoc, ← HZ.out]; go_num, by go_num, hjl, trivial⟩
                      case measure => simp [intOf]; omega
                    · have t1 : afor.isEmpty = false := by cases afor; exact absurd rfl hf; rfl
                      have HF1 := Lib.hid (show firsts (A.take (j + 1)) = firsts (A.take j) by rw [HFS.out, if_neg hf]; rfl)
                      clear hf
                      go_wp2_with fail
                      go_roundw
                      case rel => exact ⟨j + 1, by rw [HF1.out, ← HZ.out], by go_num, hjl, trivial⟩
                      case measure => simp [intOf]; omega
                  · obtain rfl : j = A.length := by omega
                    rw [List.take_length, HA.out.2]
                    generalize wr = w8 at *
                    go_wp2_with fail
                    go_roundw
                    case rel =>
                      have hn6 := HN6.out
                      have ha6 := (HX.out.2.2.1.below HV5.out.2).kept HK6.out HGb.out.1
                      have hr6 := (HX.out.2.2.2.1.below HV5.out.2).kept HK6.out HGb.out.2
                      have hb6 := (HX.out.2.2.2.2.1.trans (HV5.out.2.mono HX.out.2.2.2.2.1.size)).trans (HK6.out.below (fun j hj => by subst hj; exact HLE.out.1) (Nat.le_trans HX.out.2.2.2.2.1.size HV5.out.2.size))
                      have hz6 := Nat.le_trans HX.out.2.2.2.2.2 (Nat.le_trans HV5.out.2.size HK6.out.size)
                      by_cases hxk : x = k * P
                      · rw [if_pos hxk] at hn6
                        refine ⟨x + 1, k + 1, s', by rw [if_pos hxk], by go_num, ?_, ?_, by omega, hn6, HS6.out, ha6, hr6, hcw6, hb6, hz6⟩
                        · rw [Nat.succ_mul, ← HY.out]; omega
                        · rw [Nat.succ_mul, ← hxk]; omega
                      · rw [if_neg hxk] at hn6
                        refine ⟨x + 1, k, s', by rw [if_neg hxk]; rfl, by go_num, ?_, ?_, by omega, hn6, HS6.out, ha6, hr6, hcw6, hb6, hz6⟩
                        · rw [← HY.out] at hxk ⊢; omega
                        · rw [← HY.out]; omega
                    case measure => simp [intOf]; omega
        · have hxe : x = N := by omega
          subst hxe
          have hkn : (n : Int) ≤ (k : Int) := by have := HN3.out k (by rw [← HY.out]; exact hx1); omega
          go_wp2_with fail
          with_reducible refine (Works_f _).mono ?_
          rintro e w7 ⟨rfl, hb7⟩
          have HB7 := Lib.hid (HX.out.2.2.2.2.1.trans (hb7.mono HX.out.2.2.2.2.1.size))
          clear hb7
          go_wp2
          go_ret
          exact ⟨rfl, HB7.out⟩
end Go.Proofs.Ytekjmkjghlbkbaa.Sw
