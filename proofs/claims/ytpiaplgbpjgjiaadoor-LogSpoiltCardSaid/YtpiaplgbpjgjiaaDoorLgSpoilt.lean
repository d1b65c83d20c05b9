/-
  Logs (layer 8): the statement LogSpoilt, walked. Conditions: the texts lie in memory and are within the reach; the sum's table is laid; numbers are of their kinds.
-/
import Derived.Test.YtpiaplgbpjgjiaaDoorLgSpoilM
open Go Go.RowKit
namespace Go.Proofs.YtpiaplgbpjgjiaaDoor.Lg
open Base Mp Dk Frame

structure Sd (l : List Key) (k : Nat) (t : Key) (f bits_ e : Nat) (D : DiskD) : Prop where
  fused : D.fused = false
  room : D.room = 65536
  file : ∃ u sr, lookL D.files (keyS nA) = some ⟨turnedFile l k t u, sr, false⟩ ∧ Sp t f bits_ e u
theorem sd_start (l : List Key) (hl : l ≠ []) (hs : weight l ≤ 4096) (k : Nat) (hk : k < l.length) (f bits_ : Nat) : ∃ D1 D2 D3 L2 L3, openL (DL0 65536) nA = (D1, some (⟨nA, 0, 0, 0, false⟩, []), 0) ∧ putRs D1 ⟨nA, 0, 0, 0, false⟩ l = (D2, L2, 0) ∧ keepL D2 L2 = (D3, L3, 0) ∧ L2.name = nA ∧ Sd l k l[k] f bits_ 0 D3 := by
  obtain ⟨D1, h1, h2, h3, h4, -⟩ := open_absent (D := DL0 65536) (n := nA) rfl mayA rfl (by decide)
  obtain ⟨f1, l1⟩ := h4 (fine0 (by decide))
  have w1 : Well D1 ⟨nA, 0, 0, 0, false⟩ [] 0 false := ⟨h3.fused, h2, rfl, rfl, rfl⟩
  have hw := puts_weight l
  obtain ⟨D2, p2, w2, e2, g2, -⟩ := put_well w1 l hl (by rw [l1]; show _ ≤ 65536; omega)
  obtain ⟨D3, p3, w3, e3, -⟩ := keep_well w2
  refine ⟨D1, D2, D3, _, _, h1, p2, p3, rfl, ⟨w3.fused, e3.room.trans (e2.room.trans h3.room), l[k], (puts l).length, ?_, Sp.start _ _ _⟩⟩
  rw [turned_none l k hk]
  exact w3.file
theorem sd_step {l : List Key} {k : Nat} {t : Key} {f bits_ e : Nat} {D : DiskD} (h : Sd l k t f bits_ e D) (hi : f + e < 8 * t.length) (hb : bits_ / 2 ^ e % 2 = 1) :
    ∃ D', spoilD D nA (((puts (l.take k)).length + 8 + (f + e) / 8 : Nat) : Int) (UInt8.ofNat (2 ^ ((f + e) % 8))) = (D', 0) ∧ Sd l k t f bits_ (e + 1) D' := by
  obtain ⟨u, sr, hl, hu⟩ := h.file
  have hiu : (f + e) / 8 < u.length := by rw [hu.len]; omega
  obtain ⟨a1, a2, a3⟩ := turned_at l k t u ((f + e) / 8) hiu (u[(f + e) / 8] ^^^ UInt8.ofNat (2 ^ ((f + e) % 8)))
  refine ⟨withFile D (keyS nA) ⟨turnedFile l k t (u.set ((f + e) / 8) (u[(f + e) / 8] ^^^ UInt8.ofNat (2 ^ ((f + e) % 8)))), sr, false⟩, ?_, ⟨h.fused, h.room, _, sr, with_same hl, hu.step hiu hb⟩⟩
  unfold spoilD findD
  rw [hl]
  simp only
  rw [if_neg (by rw [a1]; omega), Int.toNat_natCast, a2, a3]
theorem sd_skip {l : List Key} {k : Nat} {t : Key} {f bits_ e : Nat} {D : DiskD} (h : Sd l k t f bits_ e D) (hb : bits_ / 2 ^ e % 2 ≠ 1) : Sd l k t f bits_ (e + 1) D := by
  obtain ⟨u, sr, hl, hu⟩ := h.file
  exact ⟨h.fused, h.room, u, sr, hl, hu.skip hb⟩
theorem sd_open {l : List Key} {k : Nat} {t : Key} {f bits_ e : Nat} {D : DiskD} (hk : k < l.length) (htt : l[k] = t) (h : Sd l k t f bits_ e D) (hfi : Fine D) (hs : ∀ r ∈ l, r.length ≤ 1048576) (he : e ≤ 32) (hf : bits_ % 2 ^ e ≠ 0 → f ≤ 8 * t.length) :
    ∃ D' L', openL D nA = (D', some (L', if bits_ % 2 ^ e = 0 then l else l.take k), 0) := by
  subst htt
  obtain ⟨u, sr, hl, hu⟩ := h.file
  have hsr := hfi.sure _ (mem_of_look hl)
  simp only at hsr
  by_cases h0 : bits_ % 2 ^ e = 0
  · have e1 := hu.same h0
    subst e1
    rw [turned_none l k hk] at hl hsr
    obtain ⟨D', f', q, -⟩ := open_good h.fused hl hsr hs
    rw [if_pos h0]
    exact ⟨D', _, q⟩
  · rw [if_neg h0]
    obtain ⟨hr, hg⟩ := turned_scan l k l[k] u hs (hs _ (List.getElem_mem hk)) hu.len (hu.bad (hs _ (List.getElem_mem hk)) he (hf h0) h0)
    have hgl := good_le (turnedFile l k l[k] u)
    have hcut : cutD D nA (good (turnedFile l k l[k] u) : Int) = (withFile D (keyS nA) ⟨(turnedFile l k l[k] u).take (good (turnedFile l k l[k] u)), good (turnedFile l k l[k] u), false⟩, 0) := by
      unfold cutD opD
      rw [if_neg (by rw [(unfused h.fused).1]; decide), hl]
      simp only
      rw [if_neg (by omega), Int.toNat_natCast, (unfused (D := withFile D (keyS nA) ⟨(turnedFile l k l[k] u).take (good (turnedFile l k l[k] u)), good (turnedFile l k l[k] u), false⟩) h.fused).2]
    have ho : openL D nA = ends nA (turnedFile l k l[k] u) (mend D nA (turnedFile l k l[k] u) false) := by unfold openL; rw [hl]
    refine ⟨withFile D (keyS nA) ⟨(turnedFile l k l[k] u).take (good (turnedFile l k l[k] u)), good (turnedFile l k l[k] u), false⟩, fresh nA (turnedFile l k l[k] u), ?_⟩
    rw [ho]
    unfold mend
    rw [if_pos hg, hcut]
    unfold ends
    rw [if_pos rfl, hr]
set_option maxRecDepth 100000 in
set_option maxHeartbeats 8000000 in
theorem LogSpoilt_calls (w : World) (p : Option Addr) (cap : Nat) (l : List Key) (which at_ bits_ : Nat) (hwh : which < 256) (hat : at_ < 4294967296) (hbi : bits_ < 4294967296) (hl : l.length ≤ maxLen) (hcap : l.length ≤ cap) (hr : RowArg w p (strs l)) (hz : ∀ t ∈ l, t.length ≤ 140737488351232) (hT : Crc.TabOk w) :
    Calls Tryd.prog 7 #[.slice p l.length cap, .int .u8 (which : Int), .int .u32 (at_ : Int), .int .u32 (bits_ : Int)] w fun e w' => e = .returned (.bool true) ∧ Below w.heap.size w w' := by
  have HR := Lib.hid hr
  have HZ := Lib.hid hz
  have HT := Lib.hid hT
  unfold maxLen at hl
  clear hr hz hT
  go_enter Tryd.func7, Tryd.ntmps7
  go_wp2_with fail
  go_loopw [9, 10] (fun v u wr => ∃ i : Nat, v = .int .i64 ((weight (l.take i) : Nat) : Int) ∧ u = .int .i64 (i : Int) ∧ i ≤ l.length ∧ i ≤ 100 ∧ weight (l.take i) ≤ i * 140737488351233 ∧ w = wr) (fun _ u _ => l.length - (intOf u).toNat)
  case atStart => exact ⟨0, by simp [weight], rfl, Nat.zero_le _, by omega, by simp [weight], rfl⟩
  case round =>
    obtain ⟨i, rfl, rfl, hi, hi5, hsum, rfl⟩ := hrel
    by_cases hin : i < l.length ∧ i < 100
    · obtain ⟨b, o, rfl, _, hc⟩ := HR.out i (by rw [strs_length]; exact hin.1)
      rw [strs_at _ _ hin.1] at hc
      have HS := Lib.hid (weight_succ l i hin.1)
      have hzi := HZ.out _ (List.getElem_mem hin.1)
      have HI := Lib.hid hin
      have t1 : (i : Int) < (l.length : Int) := by omega
      have t2 : (i : Int) < 100 := by omega
      have t3 : 0 ≤ (i : Int) := by omega
      generalize l[i] = x at *
      clear hin
      generalize hhn : weight (l.take i) = hn at *
      have s1 : hn ≤ 14073748835123300 := Nat.le_trans hsum (by omega)
      have HSUM := Lib.hid hsum
      clear hsum hhn
      go_wp2_with fail
      go_roundw
      case rel =>
        first
          | exact ⟨i + 1, by rw [HS.out]; go_num, by go_num, HI.out.1, HI.out.2, by rw [HS.out]; have := HSUM.out; omega, by first | rfl | trivial⟩
          | ((repeat apply Exists.intro); exact ⟨⟨i + 1, by rw [HS.out]; go_num, by go_num, HI.out.1, HI.out.2, by rw [HS.out]; have := HSUM.out; omega, by first | rfl | trivial⟩, rfl⟩)
      case measure => have := HI.out; simp [intOf]; omega
    · have hW := weight_take_le l i
      by_cases hv : l.length = 0 ∨ (l.length ≠ 0 ∧ 50 < l.length) ∨ (l.length ≠ 0 ∧ l.length ≤ 50 ∧ 4096 < weight (l.take i))
      · have s1 : weight (l.take i) ≤ 14073748835123300 := Nat.le_trans hsum (by omega)
        generalize weight (l.take i) = hn at *
        have hguard : ¬ (i : Int) < (l.length : Int) ∨ ((i : Int) < (l.length : Int) ∧ ¬ (i : Int) < 100) := by omega
        have hv2 : ((l.length : Int) == 0) = true ∨ (((l.length : Int) == 0) = false ∧ (50 : Int) < (l.length : Int)) ∨ (((l.length : Int) == 0) = false ∧ ¬ (50 : Int) < (l.length : Int) ∧ (4096 : Int) < ((hn : Nat) : Int)) := by
          simp only [beq_iff_eq, beq_eq_false_iff_ne, ne_eq]
          omega
        clear hin hv hsum hW
        rcases hguard with hg1 | ⟨hg1, hg2⟩ <;> rcases hv2 with hv3 | ⟨hv3, hv4⟩ | ⟨hv3, hv4, hv5⟩
        all_goals first
          | (exfalso; simp only [beq_iff_eq, beq_eq_false_iff_ne, ne_eq] at hv3; omega)
          | (go_wp2_with fail
             with_reducible refine (LWorks_f _ HT.out).mono ?_
             rintro e w2 ⟨rfl, hb2⟩
             have HB2 := Lib.hid hb2
             clear hb2
             go_wp2
             go_ret
             exact ⟨rfl, HB2.out⟩)
      · have hll : l.length ≤ 50 := by omega
        have hl0 : 0 < l.length := by omega
        obtain rfl : i = l.length := by omega
        rw [List.take_length] at hv hsum hW ⊢
        have hwt : weight l ≤ 4096 := by omega
        have hv2 : ((l.length : Int) == 0) = false := by simp only [beq_eq_false_iff_ne, ne_eq]; omega
        have hv3 : ¬ (50 : Int) < (l.length : Int) := by omega
        have hv4 : ¬ (4096 : Int) < ((weight l : Nat) : Int) := by omega
        have t1 : ¬ (l.length : Int) < (l.length : Int) := by omega
        have HSH := Lib.hid (show ∀ r ∈ l, r.length ≤ 4096 from fun r hr => by have := mem_weight hr; omega)
        have HPL := Lib.hid (show (puts l).length ≤ 32768 by have := puts_weight l; omega)
        obtain ⟨k, hkk⟩ : ∃ k, k = which % l.length := ⟨_, rfl⟩
        have hkl : k < l.length := by rw [hkk]; exact Nat.mod_lt _ hl0
        have m1 : ((which : Int).tmod (l.length : Int)) = (k : Int) := by rw [Int.tmod_eq_emod_of_nonneg (by omega), hkk]; exact (Int.natCast_emod _ _).symm
        have HM5 := Lib.hid (show (which : Int) % (l.length : Int) = (k : Int) by rw [hkk]; exact (Int.natCast_emod _ _).symm)
        have m2 : IntKind.i64.wrap (which : Int) = (which : Int) := by rw [IntKind.wrap_i64]; omega
        have m3 : IntKind.i64.wrap (k : Int) = (k : Int) := by rw [IntKind.wrap_i64]; omega
        have m4 : (l.length : Int) ≠ 0 := by omega
        obtain ⟨f, hff⟩ : ∃ f, f = at_ % (8 * l[k].length) := ⟨_, rfl⟩
        obtain ⟨D1, D2, D3, L2, L3, p1, p2, p3, hname, hsd⟩ := sd_start l (fun e => by rw [e] at hl0; simp at hl0) hwt k hkl f bits_
        have P1 := Lib.hid p1
        have P2 := Lib.hid p2
        have P3 := Lib.hid p3
        have HNM := Lib.hid hname
        have HSD := Lib.hid hsd
        have HFF := Lib.hid hff
        have HN := Lib.hid (show Calls Tryd.prog 15 #[.int .i64 65536] w fun e w' => ∃ b, e = .returned (.tuple #[.pointer (some ⟨b, 0, none⟩), .int .i64 0]) ∧ DW w w' b (DL0 65536) from DW.new (r := 65536) (by decide) (Below.refl w.heap.size w))
        clear hin hv hsum hW hwt p1 p2 p3 hname hsd hff hkk
        generalize weight l = wl at *
        go_wp2_with fail
        with_reducible refine HN.out.mono ?_
        rintro e w1 ⟨b, rfl, h1⟩
        obtain ⟨T1, h1⟩ := dx_of h1
        have HO := Lib.hid (show Calls Tryd.prog 9 #[.pointer (some ⟨b, 0, none⟩), .string ⟨#[97]⟩] w1 _ from LOpen_ok h1 HT.out nA (by decide) (by show 65536 ≤ 1048576; decide) P1.out)
        clear h1 HN P1
        go_wp2_with fail
        with_reducible refine HO.out.mono ?_
        rintro e w4 ⟨lb, pr, cr, T4, rfl, h4, -, -, -, -⟩
        obtain ⟨pa, ca, w5, hra, hoa, hba⟩ := append_strs w4 p cap l (RowArg.below HR.out h4.dx.below) (by omega)
        have h5 := h4.later hba
        have HRA := Lib.hid hra
        have HP := Lib.hid (show Calls Tryd.prog 10 #[.pointer (some ⟨lb, 0, none⟩), .slice pa l.length ca] w5 (LPost w w5 b lb T4 (D2, L2, 0)) from by
          obtain ⟨p', c', e1, hrow, -, -⟩ := RowArg.of_own hoa
          injection e1 with e1 e2 e3
          subst e1 e3
          have h := LAppend_f h5 HT.out pa ca l ⟨hrow, fun r hr => Nat.le_trans (HSH.out r hr) (by decide), Nat.le_trans HPL.out (by decide), by decide, by decide, by decide⟩
          rw [P2.out] at h
          exact h)
        clear h4 HO hra hoa hba h5 P2
        go_wp2_with (first | (at_builtin; refine wpList_append_run_g (by rfl) _ _ _ _ rfl rfl rfl HRA.out ?_))
        with_reducible refine HP.out.mono ?_
        rintro e w6 ⟨rfl, h6, -⟩
        simp only at h6
        have HS := Lib.hid (show Calls Tryd.prog 11 #[.pointer (some ⟨lb, 0, none⟩)] w6 (LPost w w6 b lb _ (D3, L3, 0)) from by
          have h := LSync_f h6 (by rw [HNM.out]; decide)
          rw [P3.out] at h
          exact h)
        clear h6 HP HRA P3
        go_wp2_with fail
        with_reducible refine HS.out.mono ?_
        rintro e w7 ⟨rfl, h7, -⟩
        have H7 := Lib.hid h7.dx
        clear h7 HS m1 m2
        go_wp2_with fail
        have HKL := Lib.hid hkl
        rw [HM5.out]
        go_loopw [17, 18] (fun v u wr => ∃ i : Nat, v = .int .i64 (((puts (l.take i)).length : Nat) : Int) ∧ u = .int .i64 (i : Int) ∧ i ≤ k ∧ w7 = wr) (fun _ u _ => k - (intOf u).toNat)
        case atStart => exact ⟨0, by simp [puts], rfl, Nat.zero_le _, rfl⟩
        case round =>
          obtain ⟨i, rfl, rfl, hik, rfl⟩ := hrel
          by_cases hlt : i < k
          · have hil : i < l.length := by omega
            obtain ⟨bs, os, rfl, hbs, hc⟩ := HR.out i (by rw [strs_length]; exact hil)
            rw [strs_at _ _ hil] at hc
            have hcw : w7.cell? ⟨bs, os + i, none⟩ = some (.string (B l[i])) := (H7.out.below.cell (p := ⟨bs, os + i, none⟩) hbs).trans hc
            have t2 : (i : Int) < (k : Int) := by omega
            have t3 : 0 ≤ (i : Int) := by omega
            have t4 : (i : Int) < (l.length : Int) := by omega
            have HPS := Lib.hid (show (puts (l.take (i + 1))).length = (puts (l.take i)).length + 8 + l[i].length by rw [puts_take_succ l i hil, List.length_append, put_length]; omega)
            have hsh := HSH.out _ (List.getElem_mem hil)
            have hpl := Nat.le_trans (puts_take_le l i) HPL.out
            clear hc
            generalize l[i] = x at *
            generalize (puts (l.take i)).length = pl at *
            go_wp2_with fail
            go_roundw
            case rel =>
              first
                | exact ⟨i + 1, by rw [HPS.out]; go_num, by go_num, hlt, by first | rfl | trivial⟩
                | ((repeat apply Exists.intro); exact ⟨⟨i + 1, by rw [HPS.out]; go_num, by go_num, hlt, by first | rfl | trivial⟩, rfl⟩)
            case measure => simp [intOf]; omega
          · obtain rfl : i = k := by omega
            obtain ⟨bs, os, rfl, hbs, hc⟩ := HR.out i (by rw [strs_length]; exact hkl)
            rw [strs_at _ _ hkl] at hc
            have hcw : w7.cell? ⟨bs, os + i, none⟩ = some (.string (B l[i])) := (H7.out.below.cell (p := ⟨bs, os + i, none⟩) hbs).trans hc
            have t2 : ¬ (i : Int) < (i : Int) := by omega
            have t3 : 0 ≤ (i : Int) := by omega
            have t4 : (i : Int) < (l.length : Int) := by omega
            have hsh := HSH.out _ (List.getElem_mem hkl)
            have hpl := Nat.le_trans (puts_take_le l i) HPL.out
            clear hc
            generalize ht : l[i] = t at *
            have HTT := Lib.hid ht
            clear ht
            obtain ⟨pl, hple⟩ : ∃ pl, pl = (puts (l.take i)).length := ⟨_, rfl⟩
            rw [← hple] at hpl ⊢
            have HPE := Lib.hid hple
            clear hple
            go_wp2_with fail
            go_loopw [20, 21] (fun v u wr => ∃ (m e : Nat) (D : DiskD) (T : Nat → Prop), u = .int .i64 (m : Int) ∧ m ≤ 32 ∧ v = .bool (bits_ % 2 ^ e != 0) ∧ e ≤ m ∧ (e = m ∨ 8 * t.length ≤ f + e) ∧ (t.length = 0 → e = 0) ∧ DX w wr b D T ∧ Sd l i t f bits_ e D) (fun _ u _ => 32 - (intOf u).toNat)
            case atStart => exact ⟨0, 0, D3, _, rfl, by omega, by simp [Nat.mod_one], Nat.le_refl _, .inl rfl, fun _ => rfl, H7.out, HSD.out⟩
            case round =>
              obtain ⟨m, e, D, T, rfl, hm, rfl, hem, hee, he0, hd, hsd⟩ := hrel
              have HD := Lib.hid hd
              have HSD2 := Lib.hid hsd
              clear hd hsd
              by_cases hlt : m < 32 ∧ 0 < t.length
              · obtain ⟨hm32, htl⟩ := hlt
                have t5 : (m : Int) < 32 := by omega
                have t6 : (0 : Int) < 8 * (t.length : Int) := by omega
                have hfn : f < 8 * t.length := by rw [HFF.out]; exact Nat.mod_lt _ (by omega)
                have hfm : (at_ : Int) % (8 * (t.length : Int)) = (f : Int) := by rw [HFF.out]; simp
                have ea := Crc.bit_and bits_ m hbi
                by_cases hfit : f + m < 8 * t.length
                · obtain rfl : e = m := by omega
                  have t7 : (f : Int) + (e : Int) < 8 * (t.length : Int) := by omega
                  by_cases hb : bits_ / 2 ^ e % 2 = 1
                  · rw [hb] at ea
                    obtain ⟨D', q1, hs2⟩ := sd_step HSD2.out hfit hb
                    have HS2 := Lib.hid hs2
                    have HMN := Lib.hid (Crc.mask_ne bits_ e hb)
                    have HSP := Lib.hid (show Calls Tryd.prog 24 #[.pointer (some ⟨b, 0, none⟩), .string ⟨#[97]⟩, .int .i64 ((pl : Int) + 8 + ((f : Int) + (e : Int)) / 8), .int .u8 (2 ^ ((f + e) % 8) % 256)] wr fun e w' => e = .returned (.int .i64 0) ∧ DX w w' b D' (More T wr w') ∧ Kept T wr w' from by
                      have h := HD.out.op (Spoil_f HD.out.dk nA (((puts (l.take i)).length + 8 + (f + e) / 8 : Nat) : Int) (UInt8.ofNat (2 ^ ((f + e) % 8))) (by decide) (by have := HPE.out; omega))
                      rw [q1] at h
                      have e1 : (((puts (l.take i)).length + 8 + (f + e) / 8 : Nat) : Int) = (pl : Int) + 8 + ((f : Int) + (e : Int)) / 8 := by rw [← HPE.out]; omega
                      have e2 : (((UInt8.ofNat (2 ^ ((f + e) % 8))).toNat : Nat) : Int) = 2 ^ ((f + e) % 8) % 256 := by
                        rw [UInt8.toNat_ofNat']
                        simp
                      rw [e1, e2] at h
                      exact h)
                    clear q1 hs2 hb
                    go_wp2_with fail
                    with_reducible refine HSP.out.mono ?_
                    rintro e9 w9 ⟨rfl, h9, -⟩
                    have H9 := Lib.hid h9
                    clear h9 HSP
                    go_wp2_with fail
                    go_roundw
                    case rel =>
                      first
                        | exact ⟨e + 1, e + 1, D', _, by go_num, hm32, by rw [HMN.out], Nat.le_refl _, .inl rfl, fun h => by omega, H9.out, HS2.out⟩
                        | ((repeat apply Exists.intro); exact ⟨⟨e + 1, e + 1, D', _, by go_num, hm32, by rw [HMN.out], Nat.le_refl _, .inl rfl, fun h => by omega, H9.out, HS2.out⟩, rfl⟩)
                    case measure => simp [intOf]; omega
                  · have HS2 := Lib.hid (sd_skip HSD2.out hb)
                    have HMN := Lib.hid (Crc.mask_same bits_ e hb)
                    rw [show bits_ / 2 ^ e % 2 = 0 from by omega] at ea
                    clear hb
                    go_wp2_with fail
                    go_roundw
                    case rel =>
                      first
                        | exact ⟨e + 1, e + 1, D, _, by go_num, hm32, by rw [HMN.out], Nat.le_refl _, .inl rfl, fun h => by omega, HD.out, HS2.out⟩
                        | ((repeat apply Exists.intro); exact ⟨⟨e + 1, e + 1, D, _, by go_num, hm32, by rw [HMN.out], Nat.le_refl _, .inl rfl, fun h => by omega, HD.out, HS2.out⟩, rfl⟩)
                    case measure => simp [intOf]; omega
                · have t7 : ¬ (f : Int) + (m : Int) < 8 * (t.length : Int) := by omega
                  have hee2 : 8 * t.length ≤ f + e := by omega
                  by_cases hb : bits_ / 2 ^ m % 2 = 1
                  · rw [hb] at ea
                    go_wp2_with fail
                    go_roundw
                    case rel =>
                      first
                        | exact ⟨m + 1, e, D, _, by go_num, hm32, rfl, by omega, .inr hee2, fun h => by omega, HD.out, HSD2.out⟩
                        | ((repeat apply Exists.intro); exact ⟨⟨m + 1, e, D, _, by go_num, hm32, rfl, by omega, .inr hee2, fun h => by omega, HD.out, HSD2.out⟩, rfl⟩)
                    case measure => simp [intOf]; omega
                  · rw [show bits_ / 2 ^ m % 2 = 0 from by omega] at ea
                    go_wp2_with fail
                    go_roundw
                    case rel =>
                      first
                        | exact ⟨m + 1, e, D, _, by go_num, hm32, rfl, by omega, .inr hee2, fun h => by omega, HD.out, HSD2.out⟩
                        | ((repeat apply Exists.intro); exact ⟨⟨m + 1, e, D, _, by go_num, hm32, rfl, by omega, .inr hee2, fun h => by omega, HD.out, HSD2.out⟩, rfl⟩)
                    case measure => simp [intOf]; omega
              · have hex : ¬ (m : Int) < 32 ∨ ((m : Int) < 32 ∧ ¬ (0 : Int) < 8 * (t.length : Int)) := by omega
                obtain ⟨D', L', q1⟩ := sd_open hkl HTT.out HSD2.out HD.out.fine (fun r hr => Nat.le_trans (HSH.out r hr) (by decide)) (by omega) (fun h0 => by
                  rcases Nat.eq_zero_or_pos t.length with hz | hz
                  · rw [he0 hz] at h0
                    simp [Nat.mod_one] at h0
                  · rw [HFF.out]
                    exact Nat.le_of_lt (Nat.mod_lt _ (by omega)))
                have HO := Lib.hid (show Calls Tryd.prog 9 #[.pointer (some ⟨b, 0, none⟩), .string ⟨#[97]⟩] wr _ from LOpen_ok HD.out HT.out nA (by decide) (by rw [HSD2.out.room]; decide) q1)
                clear q1
                have hc1 : (l.length : Int) ≤ (cap : Int) := by omega
                have hc2 : (i : Int) ≤ (cap : Int) := by omega
                by_cases h0 : bits_ % 2 ^ e = 0
                · have hbf : (bits_ % 2 ^ e != 0) = false := by simp [h0]
                  rw [if_pos h0] at HO
                  clear h0 hlt
                  rcases hex with hx1 | ⟨hx1, hx2⟩
                  all_goals
                    go_wp2_with fail
                    with_reducible refine HO.out.mono ?_
                    rintro e9 w9 ⟨lb2, pr2, cr2, T9, rfl, h9, k9, -, -, hrow⟩
                    have HSM := Lib.hid (Same_f pr2 (some ⟨bs, os, none⟩) l l cr2 cap w9 hl hl (fun j hj => by
                      have hj' : j < l.length := by rw [strs_length] at hj; exact hj
                      obtain ⟨g, h1, _, h3, _, _, h5⟩ := hrow j hj'
                      exact ⟨g, 0, h1, h3, by rw [Nat.zero_add, strs_at _ _ hj']; exact h5⟩) (RowArg.below HR.out h9.dx.below))
                    rw [decide_eq_true rfl] at HSM
                    have H9 := Lib.hid h9.dx.below
                    clear h9 k9 hrow HO
                    go_wp2_with fail
                    with_reducible refine HSM.out.mono ?_
                    rintro e9 wa ⟨rfl, na, rfl⟩
                    have HA := Lib.hid (H9.out.drewN na)
                    generalize w9.drewN na = wa at *
                    go_wp2_with fail
                    with_reducible refine (LWorks_f _ (HT.out.next HA.out)).mono ?_
                    rintro e9 wb ⟨rfl, hbb⟩
                    have HBB := Lib.hid (HA.out.trans (hbb.mono HA.out.size))
                    clear hbb
                    go_wp2
                    go_ret
                    exact ⟨rfl, HBB.out⟩
                · have hbf : (bits_ % 2 ^ e != 0) = true := by simp [h0]
                  rw [if_neg h0] at HO
                  clear h0 hlt
                  obtain ⟨A, hA⟩ : ∃ A, A = l.take i := ⟨_, rfl⟩
                  have hAl : A.length = i := by rw [hA, List.length_take]; omega
                  have HRA2 := Lib.hid (show RowArg w (some ⟨bs, os, none⟩) (strs A) from by
                    have h := RowArg.take HR.out i
                    have e1 : (strs l).take i = strs A := by rw [hA]; unfold strs; rw [List.map_take]
                    rw [e1] at h
                    exact h)
                  rw [← hA] at HO
                  clear hA
                  rcases hex with hx1 | ⟨hx1, hx2⟩
                  all_goals
                    go_wp2_with fail
                    with_reducible refine HO.out.mono ?_
                    rintro e9 w9 ⟨lb2, pr2, cr2, T9, rfl, h9, k9, -, -, hrow⟩
                    have HSM := Lib.hid (show Calls Tryd.prog 18 #[.slice pr2 i cr2, .slice (some ⟨bs, os, none⟩) i cap] w9 fun e w' => e = .returned (.bool true) ∧ ∃ n, w' = w9.drewN n from by
                      have h := Same_f pr2 (some ⟨bs, os, none⟩) A A cr2 cap w9 (by rw [hAl]; unfold maxLen; omega) (by rw [hAl]; unfold maxLen; omega) (fun j hj => by
                        have hj' : j < A.length := by rw [strs_length] at hj; exact hj
                        obtain ⟨g, h1, _, h3, _, _, h5⟩ := hrow j hj'
                        exact ⟨g, 0, h1, h3, by rw [Nat.zero_add, strs_at _ _ hj']; exact h5⟩) (RowArg.below HRA2.out h9.dx.below)
                      rw [decide_eq_true rfl, hAl] at h
                      exact h)
                    rw [hAl]
                    have H9 := Lib.hid h9.dx.below
                    clear h9 k9 hrow HO
                    go_wp2_with fail
                    with_reducible refine HSM.out.mono ?_
                    rintro e9 wa ⟨rfl, na, rfl⟩
                    have HA := Lib.hid (H9.out.drewN na)
                    generalize w9.drewN na = wa at *
                    go_wp2_with fail
                    with_reducible refine (LWorks_f _ (HT.out.next HA.out)).mono ?_
                    rintro e9 wb ⟨rfl, hbb⟩
                    have HBB := Lib.hid (HA.out.trans (hbb.mono HA.out.size))
                    clear hbb
                    go_wp2
                    go_ret
                    exact ⟨rfl, HBB.out⟩
end Go.Proofs.YtpiaplgbpjgjiaaDoor.Lg
