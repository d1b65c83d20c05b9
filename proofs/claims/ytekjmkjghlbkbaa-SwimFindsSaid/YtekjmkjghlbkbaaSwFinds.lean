/-
  Swim (layer 22): the statement SwimFinds, walked. Condition: the numbers are of their kinds.
-/
import Derived.Test.YtekjmkjghlbkbaaSwFindsM
import Derived.Deep.RegionHeld3
open Go Go.RowKit Go.Sort
namespace Go.Proofs.Ytekjmkjghlbkbaa.Sw
open Base
attribute [local go_sem ↓] Go.wp_at_zero Go.wp_at_succ

theorem got_end (W : World) (b : Nat) (s : SwD) (k : Nat) (an : Bool) (h : SwAt W b s) (hs : s.seq = k + 1) (ho : s.open_ = true) : (an = true → Calls Try.prog 11 #[.pointer (some ⟨b, 0, none⟩), .int .u64 ((k : Int) + 1)] W fun e w' => e = .returned (.bool true) ∧ SwAt w' b (shut s) ∧ Kept (fun x => x = b) W w') ∧ True := by
  refine ⟨fun _ => ?_, trivial⟩
  have t := Got_yes W b s h ho
  rw [show ((k : Int) + 1) = (s.seq : Int) by rw [hs]; rfl]
  exact t
set_option maxRecDepth 100000 in
set_option maxHeartbeats 8000000 in
theorem SwimFinds_calls (w : World) (p t o m a : Nat) (pd : Option Addr) (cd : Nat) (ds : List UInt8) (hp : p < 256) (ht : t < 256) (ho : o < 256) (hm : m < 256) (hds : BytesArg w pd ds) : Calls Try.prog 3 #[.int .u8 (p : Int), .int .u8 (t : Int), .int .u8 (o : Int), .int .u8 (m : Int), .int .u32 (a : Int), .slice pd ds.length cd] w fun e w' => e = .returned (.bool true) ∧ Below w.heap.size w w' := by
  have HC := Lib.hid (Conf_f w p t o hp ht ho)
  obtain ⟨P, hP⟩ : ∃ P, P = p % 12 + 2 := ⟨_, rfl⟩
  obtain ⟨T, hT⟩ : ∃ T, T = 1 + t % (p % 12 + 1) := ⟨_, rfl⟩
  obtain ⟨O, hO⟩ : ∃ O, O = o % 4 := ⟨_, rfl⟩
  rw [← hP, ← hT, ← hO] at HC
  have hP1 : 2 ≤ P ∧ P ≤ 13 := by omega
  have hT1 : 1 ≤ T ∧ T < P := by have := Nat.mod_lt t (show 0 < p % 12 + 1 by omega); omega
  have hO1 : O ≤ 3 := by omega
  obtain ⟨n, hn⟩ : ∃ n, n = m % 12 + 1 := ⟨_, rfl⟩
  have hn1 : 1 ≤ n ∧ n ≤ 12 := by omega
  have hn2 : (m : Int) % 12 + 1 = (n : Int) := by omega
  clear hP hT hO hn
  go_enter Try.func3, Try.ntmps3
  go_wp2_with fail
  with_reducible refine HC.out.mono ?_
  rintro e w1 ⟨rfl, hb1⟩
  have HB1 := Lib.hid hb1
  clear hb1 HC
  by_cases hdl : 300 < ds.length
  · have d1 : (300 : Int) < (ds.length : Int) := by omega
    go_wp2_with fail
    with_reducible refine (Works_f _).mono ?_
    rintro e w7 ⟨rfl, hb7⟩
    have HB7 := Lib.hid ((HB1.out.alloc HB1.out.size (.cells #[.int .i64 (P : Int), .int .i64 (T : Int), .int .i64 (O : Int)] 25)).trans (hb7.mono (HB1.out.alloc HB1.out.size (.cells #[.int .i64 (P : Int), .int .i64 (T : Int), .int .i64 (O : Int)] 25)).size))
    clear hb7
    go_wp2
    go_ret
    exact ⟨rfl, HB7.out⟩
  have d1 : ¬ (300 : Int) < (ds.length : Int) := by omega
  go_wp2_with fail
  have HC1 := Lib.hid (cells_made w1 #[.int .i64 (P : Int), .int .i64 (T : Int), .int .i64 (O : Int)] 25)
  have HB2 := Lib.hid (HB1.out.alloc HB1.out.size (.cells #[.int .i64 (P : Int), .int .i64 (T : Int), .int .i64 (O : Int)] 25))
  have hz1 := alloc_more w1 (.cells #[.int .i64 (P : Int), .int .i64 (T : Int), .int .i64 (O : Int)] 25)
  have HZ1 := Lib.hid hz1
  clear hz1
  have HC2 := Lib.hid (show w.heap.size ≤ w1.heap.size from HB1.out.size)
  generalize w1.alloc (.cells #[.int .i64 (P : Int), .int .i64 (T : Int), .int .i64 (O : Int)] 25) = w2 at *
  generalize w1.heap.size = c at *
  with_reducible refine (New_f w2 P T O (by omega) (by omega) (by omega) (by omega) (by omega)).mono ?_
  rintro e w3 ⟨rfl, hs0, hb0⟩
  obtain ⟨b, hb⟩ : ∃ b, b = w2.heap.size + 1 := ⟨_, rfl⟩
  rw [← hb] at hs0 ⊢
  have HS0 := Lib.hid hs0
  have HB3 := Lib.hid (HB2.out.trans (hb0.mono HB2.out.size))
  have hcb : c < w3.heap.size := by have := HZ1.out; have := hb0.size; omega
  have hbb : b < w3.heap.size := hs0.lt
  have HNE := Lib.hid (show c ≠ b by have := HZ1.out; omega)
  have HLE := Lib.hid (show w.heap.size ≤ b ∧ w.heap.size ≤ c by have := HC2.out; have := HZ1.out; omega)
  have HCO := Lib.hid (show w3.cell? ⟨c, 2, none⟩ = some (.int .i64 (O : Int)) by
    have h0 := (HC1.out 2 (by simp)).1
    exact (hb0.cell (p := ⟨c, 2, none⟩) (by have := HZ1.out; simp; omega)).trans h0)
  have HCP := Lib.hid (show w3.cell? ⟨c, 0, none⟩ = some (.int .i64 (P : Int)) by
    have h0 := (HC1.out 0 (by simp)).1
    exact (hb0.cell (p := ⟨c, 0, none⟩) (by have := HZ1.out; simp; omega)).trans h0)
  have HD3 := Lib.hid (bytes_next hds (HB2.out.trans (hb0.mono HB2.out.size)))
  clear hs0 hb0 hb HB1 HB2 HC1 HZ1 HC2
  go_wp2_with fail
  go_loopw [17, 18] (fun l u wr => ∃ i : Nat, u = .int .i64 (i : Int) ∧ i ≤ n ∧ wr.ownsRow w3.heap.size 9 1 l (letters i).length ((letters i).map strC) ∧ Below w3.heap.size w3 wr) (fun _ u _ => n - (intOf u).toNat)
  case atStart => exact ⟨0, rfl, Nat.zero_le _, no_asks _ _ _ _, Below.refl _ _⟩
  case round =>
    obtain ⟨i, rfl, hi, hown, hbe⟩ := hrel
    by_cases hik : i < n
    · have m0 : (i : Int) < (n : Int) := by omega
      obtain ⟨g, cp, w5, hr5, ho5, hb5, hs5⟩ := append_str (wr.alloc (.cells #[.int .u8 (97 + (i : Int))] 5)) w3.heap.size (by have := hbe.size; simp; omega) _ _ (hown.alloc _) (letter i) (by rw [letters_len]; omega)
      have hcv := conv_letter wr i (by omega)
      have hz0 : (wr.alloc (.cells #[.int .u8 (97 + (i : Int))] 5)).heap.size = wr.heap.size + 1 := by simp
      rw [hz0] at hr5
      have HR5 := Lib.hid hr5
      have HV5 := Lib.hid (And.intro ho5 ((hbe.alloc hbe.size _).trans hb5))
      clear hown hbe hr5 ho5 hb5 hs5 hz0
      go_wp2_with (at_builtin; refine wpList_append_run rfl _ _ _ rfl rfl rfl HR5.out ?_)
      go_roundw
      case rel =>
        refine ⟨i + 1, by go_num, hik, ?_, HV5.out.2⟩
        rw [letters_succ]
        exact HV5.out.1
      case measure => simp [intOf]; omega
    · obtain rfl : i = n := by omega
      generalize wr = W2 at *
      obtain ⟨q, cL, rfl, hA⟩ := strs_form hown
      obtain ⟨gL, rfl, hg1, hg2, _⟩ := hA 0 (by rw [letters_len]; omega)
      have HSt := Lib.hid (show StrsArg W2 (some ⟨gL, 0, none⟩) (letters i) from fun j hj => by
        obtain ⟨g', he, _, _, hc⟩ := hA j hj
        injection he with he
        injection he with he
        subst he
        exact ⟨gL, 0, rfl, by rw [Nat.zero_add]; exact hc⟩)
      have HGb := Lib.hid (show gL ≠ b by omega)
      have HSW := Lib.hid (HS0.out.next hbe)
      have HCW := Lib.hid ((hbe.cell (p := ⟨c, 0, none⟩) hcb).trans HCP.out)
      have HCV := Lib.hid ((hbe.cell (p := ⟨c, 2, none⟩) hcb).trans HCO.out)
      have HDW := Lib.hid (bytes_next HD3.out hbe)
      have HBW := Lib.hid (HB3.out.trans (hbe.mono HB3.out.size))
      have HZW := Lib.hid (And.intro (show c < W2.heap.size by have := hbe.size; omega) (And.intro (show b < W2.heap.size by have := hbe.size; omega) hg2))
      simp only [letters_len]
      clear hA hown hbe hg1 hg2 HS0 HB3 HCP HCO HD3 hcb hbb hn2
      obtain ⟨N, hN⟩ : ∃ N, N = P * (i + 2) := ⟨_, rfl⟩
      have hN1 : N ≤ 182 := by rw [hN]; exact Nat.mul_le_mul (show P ≤ 13 by omega) (show i + 2 ≤ 14 by omega)
      have hN2 : (P : Int) * ((i : Int) + 2) = (N : Int) := by rw [hN]; push_cast; rfl
      have HN3 := Lib.hid (show ∀ k, N < k * P → i + 3 ≤ k from fun k hk => by
        rw [hN, Nat.mul_comm] at hk
        have := Nat.lt_of_mul_lt_mul_right hk
        omega)
      clear hN
      generalize i = n at *
      have hmm := @run_makeMap Try.prog
      have hbm : Below W2.heap.size W2 (W2.alloc (.map #[] 0)) := (Below.refl _ _).alloc (Nat.le_refl _) _
      have hcz : (W2.alloc (.map #[] 0)).cell? ⟨c, 0, none⟩ = some (.int .i64 (P : Int)) := (hbm.cell (p := ⟨c, 0, none⟩) HZW.out.1).trans HCW.out
      have HBM := Lib.hid hbm
      have HCZ := Lib.hid hcz
      clear hbm
      go_wp2_with fail
      clear hmm hcz
      have HG4 := Lib.hid (GoneAt.made W2)
      have HCV4 := Lib.hid ((HBM.out.cell (p := ⟨c, 2, none⟩) HZW.out.1).trans HCV.out)
      have HS4 := Lib.hid (HSW.out.next HBM.out)
      have HST4 := Lib.hid (HSt.out.below HBM.out)
      have HDS4 := Lib.hid (bytes_next HDW.out HBM.out)
      have HB4 := Lib.hid (HBW.out.trans (HBM.out.mono HBW.out.size))
      have hz4 : (W2.alloc (.map #[] 0)).heap.size = W2.heap.size + 1 := by simp
      have HZ4 := Lib.hid hz4
      obtain ⟨bm, hbm⟩ : ∃ bm, bm = W2.heap.size := ⟨_, rfl⟩
      have HNM := Lib.hid (show b ≠ bm ∧ c ≠ bm ∧ gL ≠ bm ∧ w.heap.size ≤ bm by have := HZW.out; have := HBW.out.size; omega)
      rw [← hbm] at HG4 HZ4 ⊢
      clear hz4 hbm HCV HSW HSt HDW HBW HBM HCW HZW
      generalize W2.alloc (.map #[] 0) = W4 at *
      have HPD := Lib.hid (show ∀ b o, pd = some ⟨b, o, none⟩ → b < w.heap.size ∨ ds.length = 0 from fun b o e => by
        rcases Nat.eq_zero_or_pos ds.length with h | h
        · exact .inr h
        · obtain ⟨b1, o1, e1, h1, _⟩ := hds 0 h
          rw [e] at e1
          injection e1 with e1
          injection e1 with e2
          subst e2
          exact .inl h1)
      clear hds
      obtain ⟨ans, hans⟩ : ∃ ans : Nat → Bool, ∀ i, (bits BinOp.and IntKind.u32 ((a : Int) / 2 ^ i) 1 == 1) = ans i := ⟨fun i => bits BinOp.and IntKind.u32 ((a : Int) / 2 ^ i) 1 == 1, fun _ => rfl⟩
      have HANS := Lib.hid hans
      clear hans
      go_loopw [21] (fun u wr => ∃ (x k : Nat) (s : SwD) (f : Key → Nat), u = .int .i64 (x : Int) ∧ x ≤ k * P ∧ k * P < x + P ∧ x ≤ N + 1 ∧ Num P T O x k s ∧ Lost ans n k s f ∧ GoneAt wr bm f k ∧ SwAt wr b s ∧ StrsArg wr (some ⟨gL, 0, none⟩) (letters n) ∧ BytesArg wr pd ds ∧ wr.cell? ⟨c, 2, none⟩ = some (.int .i64 (O : Int)) ∧ Below w.heap.size w wr ∧ W4.heap.size ≤ wr.heap.size) (fun u _ => N + 1 - (intOf u).toNat)
      case atStart => exact ⟨0, 0, _, _, rfl, by omega, by omega, by omega, ⟨rfl, rfl, rfl, rfl, rfl, by simp, fun _ => rfl⟩, Lost.start _ _ _, HG4.out, HS4.out, HST4.out, HDS4.out, HCV4.out, HB4.out, Nat.le_refl _⟩
      case round =>
        obtain ⟨x, k, s, f, rfl, hx1, hx2, hxN, hnm, hlo, hga, hsw, hst, hby, hcv, hbw, hzw⟩ := hrel
        obtain ⟨Y, hY⟩ : ∃ Y, Y = k * P := ⟨_, rfl⟩
        have hk1 : k ≤ Y := by rw [hY]; exact Nat.le_mul_of_pos_right _ (by omega)
        rw [← hY] at hx1 hx2
        have HY := Lib.hid hY
        clear hY
        have HX := Lib.hid (And.intro hnm (And.intro hlo (And.intro hga (And.intro hsw (And.intro hst (And.intro hby (And.intro hcv (And.intro hbw hzw))))))))
        have hcw2 : c < wr.heap.size := lt_of_cell hcv
        clear hnm hlo hga hsw hst hby hcv hbw hzw
        generalize wr = w4 at *
        obtain ⟨g, cp, w5, hr5, ha5, hb5, hg5⟩ := append_all w4 _ cL (letters n) HX.out.2.2.2.2.1 (by rw [letters_len]; omega) (by rw [letters_len]; omega)
        have HTK := Lib.hid (fun (d : Nat) (hd : d < 2 ^ 64) => Tick_all w5 b g cp P T O x k s (letters n) d HX.out.1 (HX.out.2.2.2.1.next hb5) ha5 (by rw [letters_len]; omega) (by rw [letters_len]; omega) (letters_rise n (by omega)) (letters_full n) (by rw [← HY.out]; exact hx1) (by rw [← HY.out]; exact hx2) (by omega) (by omega) (by omega) hd)
        rw [letters_len] at hr5 HTK
        have HR5 := Lib.hid hr5
        have HV5 := Lib.hid (And.intro ha5 hb5)
        clear hr5 ha5 hb5 hg5
        by_cases hxn : x ≤ N
        · have m0 : (x : Int) ≤ (N : Int) := by omega
          by_cases hxd : x < ds.length
          · have m3 : (x : Int) < (ds.length : Int) := by omega
            obtain ⟨bd, od, rfl, hbd, hcd⟩ := HX.out.2.2.2.2.2.1 x hxd
            obtain ⟨dv, hdv⟩ : ∃ dv, dv = ds[x].toNat := ⟨_, rfl⟩
            have hdv2 : dv < 256 := by rw [hdv]; exact UInt8.toNat_lt _
            rw [← hdv] at hcd
            clear hdv
            have m4 : 0 ≤ (x : Int) := by omega
            go_wp2_with (at_builtin; refine wpList_append_run rfl _ _ _ rfl rfl rfl HR5.out ?_)
            with_reducible refine (HTK.out dv (by omega)).mono ?_
            rintro e w6 ⟨s', A, L, ⟨v1, v2, rfl, r1, r2, s6, k6⟩, hre⟩
            obtain ⟨hLl, hLk, hAl, hRB⟩ := rel_finds hre HX.out.1 HX.out.2.1 (by omega) (by omega)
            obtain ⟨pA, cpA, rfl, hAs⟩ := asks_form r1
            obtain ⟨pL, cpL, rfl, hLs⟩ := strs_form r2
            have HN6 := Lib.hid (HX.out.1.next hre)
            have HRB := Lib.hid hRB
            have HLK := Lib.hid hLk
            have HAs := Lib.hid hAs
            have HLs := Lib.hid hLs
            have HS6 := Lib.hid s6
            have HK6 := Lib.hid (kthen (Kept.of_below (T := fun x => x = b) HV5.out.2) k6)
            have HZ5 := Lib.hid (show bm < w5.heap.size ∧ b < w5.heap.size by
              have h1 := HX.out.2.2.1.lt
              have h2 := HX.out.2.2.2.1.lt
              have h3 := HV5.out.2.size
              omega)
            have HG6 := Lib.hid (HX.out.2.2.1.kept HK6.out (fun e => HNM.out.1 e.symm))
            clear hre hRB hLk r1 r2 hAs hLs s6 k6
            go_wp2_with fail
            go_loopw [25] (fun u wr => ∃ j : Nat, u = .int .i64 (j : Int) ∧ j ≤ L.length ∧ GoneAt wr bm ((L.take j).foldl bump f) (k + j) ∧ Kept (fun x => x = bm) w6 wr) (fun u _ => L.length - (intOf u).toNat)
            case atStart => exact ⟨0, rfl, Nat.zero_le _, HG6.out, Kept.refl _ _⟩
            case round =>
              obtain ⟨j, rfl, hj, hga, hkm⟩ := hrel
              by_cases hjl : j < L.length
              · have m1 : (j : Int) < (L.length : Int) := by omega
                have m2 : 0 ≤ (j : Int) := by omega
                have hj0 : j = 0 := by omega
                obtain ⟨gl, rfl, hgl1, hgl, hcl⟩ := HLs.out j hjl
                have hcw : wr.cell? ⟨gl, j, none⟩ = some (.string (B L[j])) := (cell_kept hkm hgl (by have := HZ5.out.1; omega)).trans hcl
                have hTK := Lib.hid (show (L.take (j + 1)).foldl bump f = bump ((L.take j).foldl bump f) L[j] by rw [List.take_succ_eq_append_getElem hjl, List.foldl_append]; rfl)
                have hlk : L[j].length ≤ maxLen := by rw [HLK.out _ (List.getElem_mem hjl)]; decide
                have hfew : (L.take j).foldl bump f L[j] ≤ 8192 := by subst hj0; exact Nat.le_trans (HX.out.2.1.few _) (by omega)
                have hlook := hga.look L[j] hlk
                obtain ⟨w7, hup, hga7, hk7⟩ := hga.bump L[j] hlk (by unfold maxLen; omega)
                generalize L[j] = lj at *
                have HGA := Lib.hid (And.intro hga7 (kthen hkm hk7))
                clear hga hkm hcl hga7 hk7 hlk hj0
                generalize hfv : (L.take j).foldl bump f lj = fv at *
                clear hfv
                go_wp2_with fail
                go_roundw
                case rel => exact ⟨j + 1, by go_num, hjl, by rw [hTK.out]; exact HGA.out.1, HGA.out.2⟩
                case measure => simp [intOf]; omega
              · obtain rfl : j = L.length := by omega
                rw [List.take_length] at hga
                have HGA := Lib.hid hga
                have HKM := Lib.hid hkm
                clear hj hjl hga hkm
                generalize wr = w7 at *
                have hcv7 : w7.cell? ⟨c, 2, none⟩ = some (.int .i64 (O : Int)) := (cell_kept HKM.out (Nat.lt_of_lt_of_le hcw2 HK6.out.size) HNM.out.2.1).trans ((cell_kept HK6.out hcw2 HNE.out).trans HX.out.2.2.2.2.2.2.1)
                have HS7 := Lib.hid (CellsAt.kept HS6.out HKM.out HS6.out.lt HNM.out.1)
                have hAz : (A.length : Int) ≤ (O : Int) + 1 := by omega
                have HST7 := Lib.hid ((HX.out.2.2.2.2.1.kept HK6.out HGb.out).kept HKM.out HNM.out.2.2.1)
                have HDS7 := Lib.hid (bytes_kept (bytes_kept HX.out.2.2.2.2.2.1 HPD.out HK6.out (fun j hj => by rw [show j = b from hj]; exact HLE.out.1)) HPD.out HKM.out (fun j hj => by rw [show j = bm from hj]; exact HNM.out.2.2.2))
                have HB7 := Lib.hid (show Below w.heap.size w w7 from (HX.out.2.2.2.2.2.2.2.1.trans (HK6.out.below (fun j hj => by rw [show j = b from hj]; exact HLE.out.1) HX.out.2.2.2.2.2.2.2.1.size)).trans (HKM.out.below (fun j hj => by rw [show j = bm from hj]; exact HNM.out.2.2.2) (Nat.le_trans HX.out.2.2.2.2.2.2.2.1.size HK6.out.size)))
                have HZ7 := Lib.hid (show W4.heap.size ≤ w7.heap.size from Nat.le_trans HX.out.2.2.2.2.2.2.2.2 (Nat.le_trans HK6.out.size HKM.out.size))
                have HAs7 := Lib.hid (show ∀ j (hj : j < A.length), ∃ g, pA = some ⟨g, 0, none⟩ ∧ g < w7.heap.size ∧ g ≠ b ∧ w7.cell? ⟨g, j * 3, none⟩ = some (.string (B A[j].to)) ∧ w7.cell? ⟨g, j * 3 + 1, none⟩ = some (.string (B A[j].for_)) ∧ w7.cell? ⟨g, j * 3 + 2, none⟩ = some (.int .u64 (A[j].seq : Int)) from fun j hj => by
                  obtain ⟨g, h1, h2, h3, h4, h5, h6⟩ := HAs.out j hj
                  have hne : g ≠ bm := by have := HZ5.out.1; omega
                  refine ⟨g, h1, Nat.lt_of_lt_of_le h3 HKM.out.size, by have := HZ5.out.2; omega, ?_, ?_, ?_⟩
                  · rw [Nat.mul_comm]; exact (cell_kept HKM.out h3 hne).trans h4
                  · rw [Nat.mul_comm]; exact (cell_kept HKM.out h3 hne).trans h5
                  · rw [Nat.mul_comm]; exact (cell_kept HKM.out h3 hne).trans h6)
                have HN7 := HN6
                clear HAs HLs HLK HKM HK6 HS6 HG6 hcw2 HN6
                generalize L.foldl bump f = f7 at *
                rcases HRB.out with ⟨hxk, hL0, hR, hlost⟩ | ⟨hxk, i1, hi1, hA1, hseq, hop, hlost⟩
                · have HR := Lib.hid hR
                  have HLO := Lib.hid hlost
                  have HXK := Lib.hid hxk
                  clear hR hlost hxk HRB
                  go_wp2_with fail
                  go_loopw [26] (fun u wr => ∃ j : Nat, u = .int .i64 (j : Int) ∧ j ≤ A.length ∧ wr = w7) (fun u _ => A.length - (intOf u).toNat)
                  case atStart => exact ⟨0, rfl, Nat.zero_le _, rfl⟩
                  case round =>
                    obtain ⟨j, rfl, hj, rfl⟩ := hrel
                    by_cases hjl : j < A.length
                    · have m1 : (j : Int) < (A.length : Int) := by omega
                      have m2 : 0 ≤ (j : Int) := by omega
                      obtain ⟨g, rfl, hg, _, a0, a1, _⟩ := HAs7.out j hjl
                      obtain ⟨i0, hi0, hfo, hbit⟩ := HR.out j hjl
                      obtain ⟨c0, hc0, hc1⟩ := letter_byte i0 (by omega)
                      rw [List.getElem?_eq_getElem hjl, Option.map_some] at hfo
                      rw [show A[j].for_ = [c0] from (Option.some.inj hfo).trans hc0] at a1
                      clear hfo
                      generalize A[j] = aj at *
                      have hb0 := (HANS.out i0).trans hbit
                      clear hbit
                      go_wp2_with fail
                      go_roundw
                      case rel => exact ⟨j + 1, by go_num, hjl, trivial⟩
                      case measure => simp [intOf]; omega
                    · obtain rfl : j = A.length := by omega
                      go_wp2_with fail
                      go_roundw
                      case rel =>
                        have hn7 := HN7.out
                        rw [if_neg HXK.out] at hn7
                        have hxk := HXK.out
                        rw [← HY.out] at hxk
                        exact ⟨x + 1, k, s', f7, by go_num, by rw [← HY.out]; omega, by rw [← HY.out]; omega, by omega, hn7, HLO.out, HGA.out.mono (by omega), HS7.out, HST7.out, HDS7.out, hcv7, HB7.out, HZ7.out⟩
                      case measure => simp [intOf]; omega
                · have HLO := Lib.hid hlost
                  have HXK := Lib.hid hxk
                  subst hA1
                  have hGO := Lib.hid (got_end w7 b s' k (ans i1) HS7.out hseq hop)
                  obtain ⟨g, rfl, hg, hgb, a0, a1, a2⟩ := HAs7.out 0 (by simp)
                  obtain ⟨c0, hc0, hc1⟩ := letter_byte i1 (by omega)
                  have a0' : w7.cell? ⟨g, 0, none⟩ = some (.string (B [c0])) := by rw [← hc0]; exact a0
                  have a1' : w7.cell? ⟨g, 1, none⟩ = some (.string ⟨#[]⟩) := a1
                  have a2' : w7.cell? ⟨g, 2, none⟩ = some (.int .u64 ((k : Int) + 1)) := a2
                  have hb0 := HANS.out i1
                  clear hlost hxk HRB a0 a1 a2 HAs7
                  simp only [List.length_cons, List.length_nil] at hAz hAl ⊢
                  have hk8 : (k : Int) ≤ 8192 := by omega
                  go_wp2_with fail
                  go_loopw [26] (fun u wr => ∃ q : Nat, u = .int .i64 (q : Int) ∧ ((q = 0 ∧ wr = w7) ∨ (q = 1 ∧ SwAt wr b (if ans i1 = true then shut s' else s') ∧ Kept (fun x => x = b) w7 wr))) (fun u _ => 1 - (intOf u).toNat)
                  case atStart => exact ⟨0, rfl, .inl ⟨rfl, rfl⟩⟩
                  case round =>
                    obtain ⟨q, rfl, ⟨rfl, rfl⟩ | ⟨rfl, hsE, hkE⟩⟩ := hrel
                    · cases hai : ans i1 with
                      | true =>
                        rw [hai] at hb0
                        have hGY := Lib.hid (hGO.out.1 hai)
                        go_wp2_with fail
                        with_reducible refine hGY.out.mono ?_
                        rintro e w8 ⟨rfl, s8, k8⟩
                        have HE := Lib.hid (And.intro s8 k8)
                        clear s8 k8
                        go_wp2_with fail
                        go_roundw
                        case rel =>
                          (repeat apply Exists.intro); exact ⟨⟨1, by go_num, .inr ⟨rfl, by first | exact HE.out.1 | (rw [if_pos hai]; exact HE.out.1), HE.out.2⟩⟩, rfl⟩
                        case measure => simp [intOf]
                      | false =>
                        rw [hai] at hb0
                        go_wp2_with fail
                        go_roundw
                        case rel => exact ⟨1, by go_num, .inr ⟨rfl, by rw [if_neg (by first | decide | (rw [hai]; decide))]; exact HS7.out, Kept.refl _ _⟩⟩
                        case measure => simp [intOf]
                    · have HE := Lib.hid (And.intro hsE hkE)
                      clear hsE hkE
                      generalize wr = w8 at *
                      go_wp2_with fail
                      go_roundw
                      case rel =>
                        have hn7 := HN7.out
                        rw [if_pos HXK.out] at hn7
                        have hxk := HXK.out
                        have hK := HE.out.2
                        refine ⟨x + 1, k + 1, _, f7, by go_num, by rw [Nat.succ_mul, ← hxk]; omega, by rw [Nat.succ_mul, ← hxk]; omega, by omega, ?_, HLO.out, (HGA.out.mono (by omega)).kept hK (fun e => HNM.out.1 e.symm), HE.out.1, HST7.out.kept hK HGb.out, bytes_kept HDS7.out HPD.out hK (fun j hj => by rw [show j = b from hj]; exact HLE.out.1), (cell_kept hK (lt_of_cell hcv7) HNE.out).trans hcv7, HB7.out.trans (hK.below (fun j hj => by rw [show j = b from hj]; exact HLE.out.1) HB7.out.size), Nat.le_trans HZ7.out hK.size⟩
                        cases ans i1 with
                        | true => exact hn7.shut
                        | false => exact hn7
                      case measure => simp [intOf]; omega
          · have m3 : ¬ (x : Int) < (ds.length : Int) := by omega
            go_wp2_with (at_builtin; refine wpList_append_run rfl _ _ _ rfl rfl rfl HR5.out ?_)
            with_reducible refine (HTK.out x (by omega)).mono ?_
            rintro e w6 ⟨s', A, L, ⟨v1, v2, rfl, r1, r2, s6, k6⟩, hre⟩
            obtain ⟨hLl, hLk, hAl, hRB⟩ := rel_finds hre HX.out.1 HX.out.2.1 (by omega) (by omega)
            obtain ⟨pA, cpA, rfl, hAs⟩ := asks_form r1
            obtain ⟨pL, cpL, rfl, hLs⟩ := strs_form r2
            have HN6 := Lib.hid (HX.out.1.next hre)
            have HRB := Lib.hid hRB
            have HLK := Lib.hid hLk
            have HAs := Lib.hid hAs
            have HLs := Lib.hid hLs
            have HS6 := Lib.hid s6
            have HK6 := Lib.hid (kthen (Kept.of_below (T := fun x => x = b) HV5.out.2) k6)
            have HZ5 := Lib.hid (show bm < w5.heap.size ∧ b < w5.heap.size by
              have h1 := HX.out.2.2.1.lt
              have h2 := HX.out.2.2.2.1.lt
              have h3 := HV5.out.2.size
              omega)
            have HG6 := Lib.hid (HX.out.2.2.1.kept HK6.out (fun e => HNM.out.1 e.symm))
            clear hre hRB hLk r1 r2 hAs hLs s6 k6
            go_wp2_with fail
            go_loopw [25] (fun u wr => ∃ j : Nat, u = .int .i64 (j : Int) ∧ j ≤ L.length ∧ GoneAt wr bm ((L.take j).foldl bump f) (k + j) ∧ Kept (fun x => x = bm) w6 wr) (fun u _ => L.length - (intOf u).toNat)
            case atStart => exact ⟨0, rfl, Nat.zero_le _, HG6.out, Kept.refl _ _⟩
            case round =>
              obtain ⟨j, rfl, hj, hga, hkm⟩ := hrel
              by_cases hjl : j < L.length
              · have m1 : (j : Int) < (L.length : Int) := by omega
                have m2 : 0 ≤ (j : Int) := by omega
                have hj0 : j = 0 := by omega
                obtain ⟨gl, rfl, hgl1, hgl, hcl⟩ := HLs.out j hjl
                have hcw : wr.cell? ⟨gl, j, none⟩ = some (.string (B L[j])) := (cell_kept hkm hgl (by have := HZ5.out.1; omega)).trans hcl
                have hTK := Lib.hid (show (L.take (j + 1)).foldl bump f = bump ((L.take j).foldl bump f) L[j] by rw [List.take_succ_eq_append_getElem hjl, List.foldl_append]; rfl)
                have hlk : L[j].length ≤ maxLen := by rw [HLK.out _ (List.getElem_mem hjl)]; decide
                have hfew : (L.take j).foldl bump f L[j] ≤ 8192 := by subst hj0; exact Nat.le_trans (HX.out.2.1.few _) (by omega)
                have hlook := hga.look L[j] hlk
                obtain ⟨w7, hup, hga7, hk7⟩ := hga.bump L[j] hlk (by unfold maxLen; omega)
                generalize L[j] = lj at *
                have HGA := Lib.hid (And.intro hga7 (kthen hkm hk7))
                clear hga hkm hcl hga7 hk7 hlk hj0
                generalize hfv : (L.take j).foldl bump f lj = fv at *
                clear hfv
                go_wp2_with fail
                go_roundw
                case rel => exact ⟨j + 1, by go_num, hjl, by rw [hTK.out]; exact HGA.out.1, HGA.out.2⟩
                case measure => simp [intOf]; omega
              · obtain rfl : j = L.length := by omega
                rw [List.take_length] at hga
                have HGA := Lib.hid hga
                have HKM := Lib.hid hkm
                clear hj hjl hga hkm
                generalize wr = w7 at *
                have hcv7 : w7.cell? ⟨c, 2, none⟩ = some (.int .i64 (O : Int)) := (cell_kept HKM.out (Nat.lt_of_lt_of_le hcw2 HK6.out.size) HNM.out.2.1).trans ((cell_kept HK6.out hcw2 HNE.out).trans HX.out.2.2.2.2.2.2.1)
                have HS7 := Lib.hid (CellsAt.kept HS6.out HKM.out HS6.out.lt HNM.out.1)
                have hAz : (A.length : Int) ≤ (O : Int) + 1 := by omega
                have HST7 := Lib.hid ((HX.out.2.2.2.2.1.kept HK6.out HGb.out).kept HKM.out HNM.out.2.2.1)
                have HDS7 := Lib.hid (bytes_kept (bytes_kept HX.out.2.2.2.2.2.1 HPD.out HK6.out (fun j hj => by rw [show j = b from hj]; exact HLE.out.1)) HPD.out HKM.out (fun j hj => by rw [show j = bm from hj]; exact HNM.out.2.2.2))
                have HB7 := Lib.hid (show Below w.heap.size w w7 from (HX.out.2.2.2.2.2.2.2.1.trans (HK6.out.below (fun j hj => by rw [show j = b from hj]; exact HLE.out.1) HX.out.2.2.2.2.2.2.2.1.size)).trans (HKM.out.below (fun j hj => by rw [show j = bm from hj]; exact HNM.out.2.2.2) (Nat.le_trans HX.out.2.2.2.2.2.2.2.1.size HK6.out.size)))
                have HZ7 := Lib.hid (show W4.heap.size ≤ w7.heap.size from Nat.le_trans HX.out.2.2.2.2.2.2.2.2 (Nat.le_trans HK6.out.size HKM.out.size))
                have HAs7 := Lib.hid (show ∀ j (hj : j < A.length), ∃ g, pA = some ⟨g, 0, none⟩ ∧ g < w7.heap.size ∧ g ≠ b ∧ w7.cell? ⟨g, j * 3, none⟩ = some (.string (B A[j].to)) ∧ w7.cell? ⟨g, j * 3 + 1, none⟩ = some (.string (B A[j].for_)) ∧ w7.cell? ⟨g, j * 3 + 2, none⟩ = some (.int .u64 (A[j].seq : Int)) from fun j hj => by
                  obtain ⟨g, h1, h2, h3, h4, h5, h6⟩ := HAs.out j hj
                  have hne : g ≠ bm := by have := HZ5.out.1; omega
                  refine ⟨g, h1, Nat.lt_of_lt_of_le h3 HKM.out.size, by have := HZ5.out.2; omega, ?_, ?_, ?_⟩
                  · rw [Nat.mul_comm]; exact (cell_kept HKM.out h3 hne).trans h4
                  · rw [Nat.mul_comm]; exact (cell_kept HKM.out h3 hne).trans h5
                  · rw [Nat.mul_comm]; exact (cell_kept HKM.out h3 hne).trans h6)
                have HN7 := HN6
                clear HAs HLs HLK HKM HK6 HS6 HG6 hcw2 HN6
                generalize L.foldl bump f = f7 at *
                rcases HRB.out with ⟨hxk, hL0, hR, hlost⟩ | ⟨hxk, i1, hi1, hA1, hseq, hop, hlost⟩
                · have HR := Lib.hid hR
                  have HLO := Lib.hid hlost
                  have HXK := Lib.hid hxk
                  clear hR hlost hxk HRB
                  go_wp2_with fail
                  go_loopw [26] (fun u wr => ∃ j : Nat, u = .int .i64 (j : Int) ∧ j ≤ A.length ∧ wr = w7) (fun u _ => A.length - (intOf u).toNat)
                  case atStart => exact ⟨0, rfl, Nat.zero_le _, rfl⟩
                  case round =>
                    obtain ⟨j, rfl, hj, rfl⟩ := hrel
                    by_cases hjl : j < A.length
                    · have m1 : (j : Int) < (A.length : Int) := by omega
                      have m2 : 0 ≤ (j : Int) := by omega
                      obtain ⟨g, rfl, hg, _, a0, a1, _⟩ := HAs7.out j hjl
                      obtain ⟨i0, hi0, hfo, hbit⟩ := HR.out j hjl
                      obtain ⟨c0, hc0, hc1⟩ := letter_byte i0 (by omega)
                      rw [List.getElem?_eq_getElem hjl, Option.map_some] at hfo
                      rw [show A[j].for_ = [c0] from (Option.some.inj hfo).trans hc0] at a1
                      clear hfo
                      generalize A[j] = aj at *
                      have hb0 := (HANS.out i0).trans hbit
                      clear hbit
                      go_wp2_with fail
                      go_roundw
                      case rel => exact ⟨j + 1, by go_num, hjl, trivial⟩
                      case measure => simp [intOf]; omega
                    · obtain rfl : j = A.length := by omega
                      go_wp2_with fail
                      go_roundw
                      case rel =>
                        have hn7 := HN7.out
                        rw [if_neg HXK.out] at hn7
                        have hxk := HXK.out
                        rw [← HY.out] at hxk
                        exact ⟨x + 1, k, s', f7, by go_num, by rw [← HY.out]; omega, by rw [← HY.out]; omega, by omega, hn7, HLO.out, HGA.out.mono (by omega), HS7.out, HST7.out, HDS7.out, hcv7, HB7.out, HZ7.out⟩
                      case measure => simp [intOf]; omega
                · have HLO := Lib.hid hlost
                  have HXK := Lib.hid hxk
                  subst hA1
                  have hGO := Lib.hid (got_end w7 b s' k (ans i1) HS7.out hseq hop)
                  obtain ⟨g, rfl, hg, hgb, a0, a1, a2⟩ := HAs7.out 0 (by simp)
                  obtain ⟨c0, hc0, hc1⟩ := letter_byte i1 (by omega)
                  have a0' : w7.cell? ⟨g, 0, none⟩ = some (.string (B [c0])) := by rw [← hc0]; exact a0
                  have a1' : w7.cell? ⟨g, 1, none⟩ = some (.string ⟨#[]⟩) := a1
                  have a2' : w7.cell? ⟨g, 2, none⟩ = some (.int .u64 ((k : Int) + 1)) := a2
                  have hb0 := HANS.out i1
                  clear hlost hxk HRB a0 a1 a2 HAs7
                  simp only [List.length_cons, List.length_nil] at hAz hAl ⊢
                  have hk8 : (k : Int) ≤ 8192 := by omega
                  go_wp2_with fail
                  go_loopw [26] (fun u wr => ∃ q : Nat, u = .int .i64 (q : Int) ∧ ((q = 0 ∧ wr = w7) ∨ (q = 1 ∧ SwAt wr b (if ans i1 = true then shut s' else s') ∧ Kept (fun x => x = b) w7 wr))) (fun u _ => 1 - (intOf u).toNat)
                  case atStart => exact ⟨0, rfl, .inl ⟨rfl, rfl⟩⟩
                  case round =>
                    obtain ⟨q, rfl, ⟨rfl, rfl⟩ | ⟨rfl, hsE, hkE⟩⟩ := hrel
                    · cases hai : ans i1 with
                      | true =>
                        rw [hai] at hb0
                        have hGY := Lib.hid (hGO.out.1 hai)
                        go_wp2_with fail
                        with_reducible refine hGY.out.mono ?_
                        rintro e w8 ⟨rfl, s8, k8⟩
                        have HE := Lib.hid (And.intro s8 k8)
                        clear s8 k8
                        go_wp2_with fail
                        go_roundw
                        case rel =>
                          (repeat apply Exists.intro); exact ⟨⟨1, by go_num, .inr ⟨rfl, by first | exact HE.out.1 | (rw [if_pos hai]; exact HE.out.1), HE.out.2⟩⟩, rfl⟩
                        case measure => simp [intOf]
                      | false =>
                        rw [hai] at hb0
                        go_wp2_with fail
                        go_roundw
                        case rel => exact ⟨1, by go_num, .inr ⟨rfl, by rw [if_neg (by first | decide | (rw [hai]; decide))]; exact HS7.out, Kept.refl _ _⟩⟩
                        case measure => simp [intOf]
                    · have HE := Lib.hid (And.intro hsE hkE)
                      clear hsE hkE
                      generalize wr = w8 at *
                      go_wp2_with fail
                      go_roundw
                      case rel =>
                        have hn7 := HN7.out
                        rw [if_pos HXK.out] at hn7
                        have hxk := HXK.out
                        have hK := HE.out.2
                        refine ⟨x + 1, k + 1, _, f7, by go_num, by rw [Nat.succ_mul, ← hxk]; omega, by rw [Nat.succ_mul, ← hxk]; omega, by omega, ?_, HLO.out, (HGA.out.mono (by omega)).kept hK (fun e => HNM.out.1 e.symm), HE.out.1, HST7.out.kept hK HGb.out, bytes_kept HDS7.out HPD.out hK (fun j hj => by rw [show j = b from hj]; exact HLE.out.1), (cell_kept hK (lt_of_cell hcv7) HNE.out).trans hcv7, HB7.out.trans (hK.below (fun j hj => by rw [show j = b from hj]; exact HLE.out.1) HB7.out.size), Nat.le_trans HZ7.out hK.size⟩
                        cases ans i1 with
                        | true => exact hn7.shut
                        | false => exact hn7
                      case measure => simp [intOf]; omega
        · have hxe : x = N + 1 := by omega
          have HKN := Lib.hid (HN3.out k (by rw [← HY.out]; omega))
          clear HTK HR5 HV5 hx1 hx2 hxN hk1 hcw2
          go_wp2_with fail
          go_loopw [28] (fun u wr => ∃ j : Nat, u = .int .i64 (j : Int) ∧ j ≤ n ∧ wr = w4) (fun u _ => n - (intOf u).toNat)
          case atStart => exact ⟨0, rfl, Nat.zero_le _, rfl⟩
          case round =>
            obtain ⟨j, rfl, hj, rfl⟩ := hrel
            by_cases hjn : j < n
            · have m1 : (j : Int) < (n : Int) := by omega
              have m2 : 0 ≤ (j : Int) := by omega
              have hlook := HX.out.2.2.1.look (letter j) (by show 1 ≤ maxLen; decide)
              have hcell : wr.cell? ⟨gL, j, none⟩ = some (.string (B (letter j))) := by
                obtain ⟨b0, o0, he, hc⟩ := HX.out.2.2.2.2.1 j (by rw [letters_len]; exact hjn)
                injection he with he
                injection he with h1 h2
                subst h1 h2
                rw [Nat.zero_add, letters_get] at hc
                exact hc
              have hno := Lib.hid (HX.out.2.1.none j hjn)
              have hso := Lib.hid (fun h => HX.out.2.1.some j hjn h (by have := HKN.out; omega))
              have hb0 := HANS.out j
              generalize hfv : f (letter j) = fv at *
              clear hfv
              cases hai : ans j with
              | true =>
                rw [hai] at hb0
                have hz : fv = 0 := hno.out hai
                subst hz
                go_wp2_with fail
                go_roundw
                case rel => exact ⟨j + 1, by go_num, hjn, trivial⟩
                case measure => simp [intOf]; omega
              | false =>
                rw [hai] at hb0
                have hz : 1 ≤ fv := hso.out hai
                have hz2 : ((fv : Int) == 0) = false := by simp; omega
                go_wp2_with fail
                go_roundw
                case rel => exact ⟨j + 1, by go_num, hjn, trivial⟩
                case measure => simp [intOf]; omega
            · obtain rfl : j = n := by omega
              generalize wr = w9 at *
              go_wp2_with fail
              with_reducible refine (Works_f _).mono ?_
              rintro e w7 ⟨rfl, hb7⟩
              have HB7 := Lib.hid (HX.out.2.2.2.2.2.2.2.1.trans (hb7.mono HX.out.2.2.2.2.2.2.2.1.size))
              clear hb7
              go_wp2
              go_ret
              exact ⟨rfl, HB7.out⟩
end Go.Proofs.Ytekjmkjghlbkbaa.Sw
