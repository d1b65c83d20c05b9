/-
  Disks (layer 7): the statement DiskKeeps, walked. Conditions: the script and the numbers lie in memory, texts and lists are within the reach.
-/
import Derived.Test.YtnmkdchgihgbhaaDkRow
import Derived.Deep.QuietTactic
import Derived.BigQuiet
open Go Go.RowKit
namespace Go.Proofs.Ytnmkdchgihgbhaa.Dk
open Base Mp
attribute [local go_sem ↓] Go.wp_at_zero Go.wp_at_succ

def wasOf (D : DiskD) (k : Nat) : List Value := ((namesD D).take k).map fun n => .string (B (readD D n).1)
def looseOf (D : DiskD) (k : Nat) : List Value := ((namesD D).take k).map fun n => .int .i64 ((looseD D n : Nat) : Int)
theorem wasOf_len (D : DiskD) (k : Nat) (h : k ≤ (namesD D).length) : (wasOf D k).length = k := by unfold wasOf; rw [List.length_map, List.length_take]; omega
theorem looseOf_len (D : DiskD) (k : Nat) (h : k ≤ (namesD D).length) : (looseOf D k).length = k := by unfold looseOf; rw [List.length_map, List.length_take]; omega
theorem wasOf_succ (D : DiskD) (k : Nat) (h : k < (namesD D).length) : wasOf D (k + 1) = wasOf D k ++ [.string (B (readD D (namesD D)[k]).1)] := by
  unfold wasOf; rw [List.take_succ_eq_append_getElem h, List.map_append]; rfl
theorem looseOf_succ (D : DiskD) (k : Nat) (h : k < (namesD D).length) : looseOf D (k + 1) = looseOf D k ++ [.int .i64 ((looseD D (namesD D)[k] : Nat) : Int)] := by
  unfold looseOf; rw [List.take_succ_eq_append_getElem h, List.map_append]; rfl
/-- The two rows, so far. -/
structure Both (D : DiskD) (wn : World) (k : Nat) (v v2 : Value) (wr : World) : Prop where
  was : wr.ownsRow wn.heap.size 9 1 v k (wasOf D k)
  loose : wr.ownsRow wn.heap.size 3 1 v2 k (looseOf D k)
  apart : Apart v v2
  below : Below wn.heap.size wn wr
set_option maxRecDepth 100000 in
set_option maxHeartbeats 8000000 in
theorem DiskKeeps_calls (w : World) (p q : Option Addr) (cap qc : Nat) (l : List StepD) (keep : List Int) (hl : l.length ≤ maxLen) (h : StepsArg w p l) (hkl : keep.length ≤ maxLen) (hk : IntsAt w q keep ∧ IntsIn keep) :
    Calls Try.prog 4 #[.slice p l.length cap, .slice q keep.length qc] w fun e w' => e = .returned (.bool true) ∧ Below w.heap.size w w' := by
  have HHV := Lib.hid (Heavy_f p l cap w hl h)
  have HA := Lib.hid h
  have HK := Lib.hid hk
  unfold maxLen at hl hkl
  clear h hk
  cases hh : heavyB l || decide (100 < keep.length) with
  | true =>
    have hh2 : heavyB l = true ∨ (heavyB l = false ∧ 100 < keep.length) := by
      cases hb : heavyB l with
      | true => exact .inl rfl
      | false => right; rw [hb] at hh; exact ⟨rfl, by simpa using hh⟩
    rcases hh2 with hh2 | ⟨hh2, hh3⟩
    · rw [hh2] at HHV
      clear hh hh2
      go_enter Try.func4, Try.ntmps4
      go_wp2_with fail
      with_reducible refine HHV.out.mono ?_
      rintro e w1 ⟨rfl, hb1⟩
      have HB1 := Lib.hid hb1
      clear hb1
      go_wp2_with fail
      with_reducible refine (Works_f _).mono ?_
      rintro e w2 ⟨rfl, hb2⟩
      have HB2 := Lib.hid (HB1.out.trans (hb2.mono HB1.out.size))
      clear hb2
      go_wp2
      go_ret
      exact ⟨rfl, HB2.out⟩
    · rw [hh2] at HHV
      have hh4 : (100 : Int) < (keep.length : Int) := by omega
      clear hh hh2
      go_enter Try.func4, Try.ntmps4
      go_wp2_with fail
      with_reducible refine HHV.out.mono ?_
      rintro e w1 ⟨rfl, hb1⟩
      have HB1 := Lib.hid hb1
      clear hb1
      go_wp2_with fail
      with_reducible refine (Works_f _).mono ?_
      rintro e w2 ⟨rfl, hb2⟩
      have HB2 := Lib.hid (HB1.out.trans (hb2.mono HB1.out.size))
      clear hb2
      go_wp2
      go_ret
      exact ⟨rfl, HB2.out⟩
  | false =>
    simp only [Bool.or_eq_false_iff, decide_eq_false_iff_not] at hh
    obtain ⟨hh1, hh2⟩ := hh
    rw [hh1] at HHV
    have HSM := Lib.hid (fun x hx => heavy_small hh1 (x := x) hx)
    have hh4 : ¬ (100 : Int) < (keep.length : Int) := by omega
    have hh5 : keep.length ≤ 100 := by omega
    clear hh1 hh2
    go_enter Try.func4, Try.ntmps4
    go_wp2_with fail
    with_reducible refine HHV.out.mono ?_
    rintro e w1 ⟨rfl, hb1⟩
    have HN := Lib.hid (show Calls Try.prog 8 #[.int .i64 4096] w1 fun e w' => ∃ b, e = .returned (.tuple #[.pointer (some ⟨b, 0, none⟩), .int .i64 0]) ∧ DW w w' b ⟨4096, [], false, 0⟩ from DW.new (r := 4096) (by omega) hb1)
    clear hb1
    go_wp2_with fail
    with_reducible refine HN.out.mono ?_
    rintro e w2 ⟨b, rfl, h2⟩
    have H2 := Lib.hid h2
    clear h2 HN HHV
    go_wp2_with fail
    go_loopw [7] (fun u wr => ∃ (i : Nat) (D : DiskD), u = .int .i64 (i : Int) ∧ i ≤ l.length ∧ DW w wr b D ∧ NewOk D) (fun u _ => l.length - (intOf u).toNat)
    case atStart => exact ⟨0, _, rfl, Nat.zero_le _, H2.out, NewOk.none 4096⟩
    case round =>
      obtain ⟨i, D, rfl, hi, hd, hno⟩ := hrel
      have HNO := Lib.hid hno
      clear hno
      by_cases hil : i < l.length
      · have t1 : (i : Int) < (l.length : Int) := by omega
        have t2 : 0 ≤ (i : Int) := by omega
        obtain ⟨bs, os, rfl, hst, hfit⟩ := HA.out.below hd.1 i hil
        obtain ⟨c0, c1, c2, c3, c4, c5⟩ := hst
        obtain ⟨hs1, hs2, hs3, hs4⟩ := HSM.out l[i] (List.getElem_mem hil)
        have HDO := Lib.hid (Does_f hd l[i] ⟨by unfold maxLen; omega, by unfold maxLen; omega, hfit.n, hfit.keep, by omega⟩ hfit.ints)
        have HNO2 := Lib.hid (HNO.out.does l[i])
        have HDD := Lib.hid hd
        have hlt := lt_of_cell c0
        clear hd hfit hs2 hs3 hs4
        generalize l[i] = x at *
        obtain ⟨dd, nm, st, nn, yy, kk, kp, kc⟩ := x
        simp only [stepV, stepCs] at c0 c1 c2 c3 c4 c5 HDO
        generalize doesD D ⟨dd, nm, st, nn, yy, kk, kp, kc⟩ = dr at *
        obtain ⟨D2, code⟩ := dr
        simp only at HDO HNO2
        by_cases h5 : dd = 5
        · subst h5
          go_wp2_with fail
          go_roundw
          case rel =>
            first
              | exact ⟨i + 1, D, by go_num, hil, HDD.out, HNO.out⟩
              | ((repeat apply Exists.intro); exact ⟨⟨i + 1, D, by go_num, hil, HDD.out, HNO.out⟩, rfl⟩)
          case measure => simp [intOf]; omega
        · have hd5 : (dd == 5) = false := by simpa using h5
          go_wp2_with fail
          with_reducible refine HDO.out.mono ?_
          rintro e w3 ⟨rfl, h3⟩
          have H3 := Lib.hid h3
          clear h3 HDO c0 c1 c2 c3 c4 c5 hlt
          go_wp2_with fail
          go_roundw
          case rel =>
            first
              | exact ⟨i + 1, D2, by go_num, hil, H3.out, HNO2.out⟩
              | ((repeat apply Exists.intro); exact ⟨⟨i + 1, D2, by go_num, hil, H3.out, HNO2.out⟩, rfl⟩)
          case measure => simp [intOf]; omega
      · obtain rfl : i = l.length := by omega
        have HD := Lib.hid hd
        have HFI := Lib.hid hd.fine
        have HNM := Lib.hid (sNames hd)
        clear hd
        generalize wr = w3 at *
        have t1 : ¬ (l.length : Int) < (l.length : Int) := by omega
        go_wp2_with fail
        with_reducible refine HNM.out.mono ?_
        rintro e w4 ⟨pn, cn, rfl, hq, hb4⟩
        have HQ := Lib.hid hq
        have HB4 := Lib.hid hb4
        have H4 := Lib.hid (HD.out.later hb4)
        obtain ⟨nl, hnl⟩ : ∃ nl, nl = (namesD D).length := ⟨_, rfl⟩
        have hnl2 : nl ≤ 16 := by rw [hnl, names_len]; exact HFI.out.few
        rw [← hnl]
        have HNL := Lib.hid hnl
        clear hq hb4 hnl
        go_wp2_with fail
        go_loopw [9, 10, 11] (fun v v2 u wr => ∃ (k : Nat), u = .int .i64 (k : Int) ∧ k ≤ nl ∧ Both D w4 k v v2 wr) (fun _ _ u _ => nl - (intOf u).toNat)
        case atStart => exact ⟨0, rfl, Nat.zero_le _, ⟨World.ownsRow_nil _ _ _ _, World.ownsRow_nil _ _ _ _, apart_nil _, Below.refl _ _⟩⟩
        case round =>
          obtain ⟨k, rfl, hk, hbo⟩ := hrel
          have HBO := Lib.hid hbo
          clear hbo
          by_cases hkl : k < nl
          · have hkl2 : k < (namesD D).length := by rw [← HNL.out]; exact hkl
            have u1 : (k : Int) < (nl : Int) := by omega
            have u2 : 0 ≤ (k : Int) := by omega
            obtain ⟨gq, rfl, hgq1, hgq2, hcq⟩ := HQ.out k hkl2
            have hcw : wr.cell? ⟨gq, k, none⟩ = some (.string (B (namesD D)[k])) := (HBO.out.below.cell (p := ⟨gq, k, none⟩) hgq2).trans hcq
            obtain ⟨_, _, hn40⟩ := HFI.out.has (List.getElem_mem hkl2)
            have HDR := Lib.hid (H4.out.later HBO.out.below)
            have HRD := Lib.hid (kRead HDR.out (namesD D)[k] (by unfold maxLen; omega))
            have HW := Lib.hid (wasOf_succ D k hkl2)
            have HL := Lib.hid (looseOf_succ D k hkl2)
            have hwl := wasOf_len D k (by omega)
            have hll := looseOf_len D k (by omega)
            obtain ⟨ga, ca, wa, hra, hga⟩ := append_key wr w4.heap.size HBO.out.below.size _ _ (by rw [hwl]; exact HBO.out.was) (readD D (namesD D)[k]).1 (by rw [hwl]; omega)
            have HGA := Lib.hid hga
            rw [hwl] at hra
            have HRA := Lib.hid hra
            have HRB := Lib.hid (show Below w4.heap.size w4 wa from HBO.out.below.trans (hga.below HBO.out.was HBO.out.below.size))
            have HLS := Lib.hid (rLoose (H4.out.later HRB.out) (namesD D)[k] (by unfold maxLen; omega))
            have HOL := Lib.hid (hga.other HBO.out.loose HBO.out.apart)
            have hcwa : wa.cell? ⟨gq, k, none⟩ = some (.string (B (namesD D)[k])) := (HRB.out.cell (p := ⟨gq, k, none⟩) hgq2).trans hcq
            clear hra hga hcq hn40
            generalize (namesD D)[k] = nmk at *
            have HRE := Lib.hid (show readD D nmk = ((readD D nmk).1, (readD D nmk).2) from rfl)
            obtain ⟨rc, hrc⟩ : ∃ rc, rc = (readD D nmk).2 := ⟨_, rfl⟩
            rw [← hrc] at HRD
            generalize (readD D nmk).1 = sk at *
            generalize looseD D nmk = lk at *
            clear hrc HRE
            go_wp2_with fail
            with_reducible refine HRD.out.mono ?_
            rintro e w5 ⟨rfl, rfl⟩
            go_wp2_with (at_builtin; refine wpList_append_run2 rfl _ _ _ _ rfl rfl rfl HRA.out ?_)
            with_reducible refine HLS.out.mono ?_
            rintro e w5 ⟨rfl, m5, rfl⟩
            have hol : (wa.drewN m5).ownsRow w4.heap.size 3 1 u10 k (looseOf D k) := HOL.out.1
            have HBD := Lib.hid (show Below w4.heap.size w4 (wa.drewN m5) from HRB.out.drewN m5)
            have HGA2 := Lib.hid (show (wa.drewN m5).ownsRow w4.heap.size 9 1 (.slice (some ⟨ga, 0, none⟩) (k + 1) ca) (k + 1) (wasOf D k ++ [.string (B sk)]) by
              have := HGA.out.own
              rw [hwl] at this
              exact this)
            have HAP := Lib.hid (show Apart (.slice (some ⟨ga, 0, none⟩) (k + 1) ca) u10 by
              have := HOL.out.2
              rw [hwl] at this
              exact this)
            clear HGA HOL HRA HRD HLS
            generalize wa.drewN m5 = wd at *
            obtain ⟨gb, cb, wb, hrb, hgb⟩ := append_num wd w4.heap.size HBD.out.size _ _ (by rw [hll]; exact hol) (lk : Int) (by rw [hll]; omega)
            rw [hll] at hrb
            have HRB2 := Lib.hid hrb
            have hb9 : Below w4.heap.size w4 wb := HBD.out.trans (hgb.below hol HBD.out.size)
            have HBO9 := Lib.hid (show Both D w4 (k + 1) (.slice (some ⟨ga, 0, none⟩) (k + 1) ca) (.slice (some ⟨gb, 0, none⟩) (k + 1) cb) wb from by
              have h1 := hgb.other HGA2.out HAP.out.symm
              have h2 := hgb.own
              rw [hll] at h1 h2
              exact ⟨by rw [HW.out]; exact h1.1, by rw [HL.out]; exact h2, h1.2.symm, hb9⟩)
            clear hrb hgb hb9 hol hwl hll
            go_wp2_with (at_builtin; refine wpList_append_run2 rfl _ _ _ _ rfl rfl rfl HRB2.out ?_)
            go_roundw
            case rel =>
              first
                | exact ⟨k + 1, by go_num, hkl, HBO9.out⟩
                | ((repeat apply Exists.intro); exact ⟨⟨k + 1, by go_num, hkl, HBO9.out⟩, rfl⟩)
            case measure => simp [intOf]; omega
          · obtain rfl : k = nl := by omega
            have hwl := wasOf_len D k (by rw [← HNL.out]; exact Nat.le_refl _)
            have hll := looseOf_len D k (by rw [← HNL.out]; exact Nat.le_refl _)
            obtain ⟨pw, cw, rfl, -, hcw⟩ := own_cells HBO.out.was
            obtain ⟨pl, cl, rfl, -, hcl⟩ := own_cells HBO.out.loose
            have HCW := Lib.hid hcw
            have HCL := Lib.hid hcl
            clear hcw hcl
            have u1 : ¬ (k : Int) < (k : Int) := by omega
            have hkw : IntsAt wr q keep := ints_kept (T := fun _ => False) HK.out.1 (Kept.of_below (H4.out.1.trans (HBO.out.below.mono H4.out.1.size))) (fun _ _ h => h)
            obtain ⟨p2, c2, w5, hr2, hi2, hc2, hm2, hb2, hp2⟩ := append_ints wr q qc keep hkw (by omega)
            have HR2 := Lib.hid hr2
            have hb5 : Below w3.heap.size w3 w5 := HB4.out.trans ((HBO.out.below.trans (hb2.mono HBO.out.below.size)).mono HB4.out.size)
            have HB5 := Lib.hid (show Below wr.heap.size wr w5 from hb2)
            have HC := Lib.hid (HD.out.crash2 hb5 p2 keep c2 hi2 HK.out.2 hc2 hm2 (fun a ha => Nat.le_trans (Nat.le_trans HB4.out.size HBO.out.below.size) (hp2 a ha)))
            clear hr2 hi2 hb2 hp2 hkw hb5
            go_wp2_with (at_builtin; refine wpList_append_run2 rfl _ _ _ _ rfl rfl rfl HR2.out ?_)
            with_reducible refine HC.out.mono ?_
            rintro e w6 ⟨rfl, h6, hk6⟩
            have H6 := Lib.hid h6
            have HK6 := Lib.hid hk6
            clear h6 hk6 HC HR2
            go_wp2_with fail
            have HS := Lib.hid (Nat.le_trans HB4.out.size (Nat.le_refl w4.heap.size))
            have HFAR := Lib.hid (show ∀ g j v, w3.heap.size ≤ g → wr.cell? ⟨g, j, none⟩ = some v → w6.cell? ⟨g, j, none⟩ = some v from fun g j v hg hc => cell_kept (cell_kept hc (Kept.of_below (T := fun _ => False) HB5.out) (fun h => h)) HK6.out (fun h => by omega))
            have HQ6 := Lib.hid (show ∀ j (hj : j < (namesD D).length), ∃ g, pn = some ⟨g, 0, none⟩ ∧ w6.cell? ⟨g, j, none⟩ = some (.string (B (namesD D)[j])) from fun j hj => by
              obtain ⟨g, h1, h2, h3, h4⟩ := HQ.out j hj
              exact ⟨g, h1, HFAR.out _ _ _ h2 ((HBO.out.below.cell (p := ⟨g, j, none⟩) h3).trans h4)⟩)
            have HW6 := Lib.hid (show ∀ j (hj : j < k) (hj2 : j < (namesD D).length), ∃ g, pw = some ⟨g, 0, none⟩ ∧ w6.cell? ⟨g, j, none⟩ = some (.string (B (readD D (namesD D)[j]).1)) from fun j hj hj2 => by
              obtain ⟨g, h1, h2, h3, h4⟩ := HCW.out j (by rw [hwl]; exact hj)
              refine ⟨g, h1, HFAR.out _ _ _ (Nat.le_trans HB4.out.size h2) (h4.trans ?_)⟩
              simp [wasOf])
            have HL6 := Lib.hid (show ∀ j (hj : j < k) (hj2 : j < (namesD D).length), ∃ g, pl = some ⟨g, 0, none⟩ ∧ w6.cell? ⟨g, j, none⟩ = some (.int .i64 ((looseD D (namesD D)[j] : Nat) : Int)) from fun j hj hj2 => by
              obtain ⟨g, h1, h2, h3, h4⟩ := HCL.out j (by rw [hll]; exact hj)
              refine ⟨g, h1, HFAR.out _ _ _ (Nat.le_trans HB4.out.size h2) (h4.trans ?_)⟩
              simp [looseOf])
            clear hwl hll HCW HCL HQ HFAR HS HK6 HB5 HBO HB4
            have HW6D := Lib.hid (show ∀ m, DW w (w6.drewN m) b (crashD D keep) from fun m => H6.out.later ((Below.refl _ _).drewN m))
            go_loopw [14] (fun u wt => ∃ (i m : Nat), u = .int .i64 (i : Int) ∧ i ≤ k ∧ wt = w6.drewN m) (fun u _ => k - (intOf u).toNat)
            case atStart => exact ⟨0, 0, rfl, Nat.zero_le _, rfl⟩
            case round =>
              obtain ⟨i, m, rfl, hi, rfl⟩ := hrel
              by_cases hik : i < k
              · have hik2 : i < (namesD D).length := by rw [← HNL.out]; exact hik
                have t2 : (i : Int) < (k : Int) := by omega
                have t3 : 0 ≤ (i : Int) := by omega
                obtain ⟨gq, rfl, hcq⟩ := HQ6.out i hik2
                obtain ⟨gw, rfl, hcw⟩ := HW6.out i hik hik2
                obtain ⟨gl, rfl, hcl⟩ := HL6.out i hik hik2
                replace hcq : (w6.drewN m).cell? ⟨gq, i, none⟩ = some (.string (B (namesD D)[i])) := hcq
                replace hcw : (w6.drewN m).cell? ⟨gw, i, none⟩ = some (.string (B (readD D (namesD D)[i]).1)) := hcw
                replace hcl : (w6.drewN m).cell? ⟨gl, i, none⟩ = some (.int .i64 ((looseD D (namesD D)[i] : Nat) : Int)) := hcl
                obtain ⟨_, _, hn40⟩ := HFI.out.has (List.getElem_mem hik2)
                have HRD := Lib.hid (kRead (HW6D.out m) (namesD D)[i] (by unfold maxLen; omega))
                have HLS := Lib.hid (rLoose (HW6D.out m) (namesD D)[i] (by unfold maxLen; omega))
                have HLQ := Lib.hid (fun n => rLoose (HW6D.out n) (namesD D)[i] (by unfold maxLen; omega))
                have hck := crash_keeps HFI.out HNO.out keep (List.getElem_mem hik2)
                have hshort : (readD D (namesD D)[i]).1.length ≤ 4194304 ∧ looseD D (namesD D)[i] ≤ (readD D (namesD D)[i]).1.length := by
                  obtain ⟨F, hF, hre, hlo⟩ := read_file HFI.out (List.getElem_mem hik2)
                  rw [hre, hlo]
                  have := HFI.out.short (mem_of_look hF)
                  simp only at this ⊢
                  omega
                have HDR := Lib.hid (show ∀ n, (w6.drewN m).drewN n = w6.drewN (m + n) from fun n => by rw [World.drewN_drewN])
                generalize (namesD D)[i] = nmk at *
                obtain ⟨sk, hsk⟩ : ∃ sk, sk = (readD D nmk).1 := ⟨_, rfl⟩
                obtain ⟨lk, hlk⟩ : ∃ lk, lk = looseD D nmk := ⟨_, rfl⟩
                rw [← hsk, ← hlk] at hck hshort
                rw [← hsk] at hcw
                rw [← hlk] at hcl
                obtain ⟨hsh1, hsh2⟩ := hshort
                have s1 : (sk.length : Int) - (lk : Int) = ((sk.length - lk : Nat) : Int) := by omega
                clear hsk hlk
                rcases hck with ⟨hr, hz⟩ | ⟨mm, hm1, hm2, hr, hlz⟩
                · rw [hr] at HRD
                  rw [hz] at s1
                  clear hr
                  generalize w6.drewN m = wd at *
                  go_wp2_with fail
                  with_reducible refine HRD.out.mono ?_
                  rintro e w8 ⟨rfl, rfl⟩
                  go_wp2_with fail
                  go_quiet (fail)
                  go_wp2_with fail
                  go_roundw
                  case rel =>
                    first
                      | exact ⟨i + 1, _, by go_num, hik, HDR.out _⟩
                      | ((repeat apply Exists.intro); exact ⟨⟨i + 1, _, by go_num, hik, HDR.out _⟩, rfl⟩)
                  case measure => simp [intOf]; omega
                · rw [hr] at HRD
                  have HLZ := Lib.hid (show ∀ n, Calls Try.prog 16 #[.pointer (some ⟨b, 0, none⟩), .string (B nmk)] ((w6.drewN m).drewN n) fun e w' => e = .returned (.int .i64 0) ∧ ∃ z, w' = (w6.drewN m).drewN z from fun n => by
                    have := HLQ.out (m + n)
                    rw [hlz, ← HDR.out] at this
                    refine this.mono ?_
                    rintro e w' ⟨he, z, rfl⟩
                    exact ⟨he, n + z, by rw [World.drewN_drewN]⟩)
                  obtain ⟨tk, htk⟩ : ∃ tk, tk = sk.take mm := ⟨_, rfl⟩
                  have htl : tk.length = mm := by rw [htk, List.length_take]; omega
                  have hte : sk.take tk.length = tk := by rw [htl, htk]
                  rw [← htk] at HRD
                  have g1 : ¬ ((tk.length : Nat) : Int) < ((sk.length - lk : Nat) : Int) := by omega
                  have g2 : ¬ (sk.length : Int) < ((tk.length : Nat) : Int) := by omega
                  have g3 : ((tk.length : Nat) : Int) ≤ (sk.length : Int) := by omega
                  clear hr hlz htk htl hm1 hm2 HLS HLQ
                  generalize w6.drewN m = wd at *
                  go_wp2_with fail
                  with_reducible refine HRD.out.mono ?_
                  rintro e w8 ⟨rfl, rfl⟩
                  go_wp2_with fail
                  go_quiet (fail)
                  go_wp2_with fail
                  with_reducible refine (HLZ.out _).mono ?_
                  rintro e w9 ⟨rfl, z, rfl⟩
                  go_wp2_with fail
                  go_roundw
                  case rel =>
                    first
                      | exact ⟨i + 1, _, by go_num, hik, HDR.out _⟩
                      | ((repeat apply Exists.intro); exact ⟨⟨i + 1, _, by go_num, hik, HDR.out _⟩, rfl⟩)
                  case measure => simp [intOf]; omega
              · obtain rfl : i = k := by omega
                obtain ⟨ln, hln⟩ : ∃ ln, ln = (namesD (crashD D keep)).length := ⟨_, rfl⟩
                have HNN := Lib.hid (show Calls Try.prog 11 #[.pointer (some ⟨b, 0, none⟩)] (w6.drewN m) fun e w' => ∃ p cap, e = .returned (.slice p ln cap) ∧ Below (w6.drewN m).heap.size (w6.drewN m) w' from (sNames (HW6D.out m)).mono fun e w' ⟨p, cap, he, _, hb⟩ => ⟨p, cap, by rw [hln]; exact he, hb⟩)
                have hle : (namesD (crashD D keep)).length ≤ i := by rw [HNL.out]; exact crash_few keep
                have HD9 := Lib.hid (HW6D.out m)
                clear HQ6 HW6 HL6
                generalize w6.drewN m = wd at *
                rw [← hln] at hle
                have t9 : (ln : Int) ≤ (i : Int) := by omega
                clear hln
                go_wp2_with fail
                with_reducible refine HNN.out.mono ?_
                rintro e w8 ⟨py, cy, rfl, hb8⟩
                have HB8 := Lib.hid (HD9.out.later hb8)
                clear hb8
                go_wp2_with fail
                with_reducible refine (Works_f _).mono ?_
                rintro e w9 ⟨rfl, hb9⟩
                have HB9 := Lib.hid (HB8.out.1.trans (hb9.mono HB8.out.1.size))
                clear hb9
                go_wp2
                go_ret
                exact ⟨rfl, HB9.out⟩
end Go.Proofs.Ytnmkdchgihgbhaa.Dk
