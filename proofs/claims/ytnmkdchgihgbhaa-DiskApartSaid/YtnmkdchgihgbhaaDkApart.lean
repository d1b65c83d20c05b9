/-
  Disks (layer 7): the statement DiskApart, walked. Conditions: the script and the numbers lie in memory, texts and lists are within the reach.
-/
import Derived.Test.YtnmkdchgihgbhaaDkCopy
import Derived.Test.YtnmkdchgihgbhaaDkDoesK
import Derived.Test.YtnmkdchgihgbhaaDkKeeps
import Derived.Deep.QuietTactic
import Derived.BigQuiet
open Go Go.RowKit
namespace Go.Proofs.Ytnmkdchgihgbhaa.Dk
open Base Mp
attribute [local go_sem ↓] Go.wp_at_zero Go.wp_at_succ

/-- Copy, of a disk of the call's own: the copy is one, too, and lies apart. -/
theorem DW.copy {w0 w : World} {b : Nat} {D : DiskD} (h : DW w0 w b D) : Calls Try.prog 24 #[.pointer (some ⟨b, 0, none⟩)] w fun e w' => ∃ c, e = .returned (.pointer (some ⟨c, 0, none⟩)) ∧ DiskAt w' c ⟨D.room, D.files, false, 0⟩ (fun i => w.heap.size ≤ i ∧ i < w'.heap.size) ∧ Below w.heap.size w w' := by
  obtain ⟨hb, T, hd, hT⟩ := h
  exact Copy_f hd
theorem zLoose {w0 w : World} {b : Nat} {D : DiskD} (h : DW w0 w b D) (n : Key) (hn : n.length ≤ maxLen) (k : Nat) : Calls Try.prog 16 #[.pointer (some ⟨b, 0, none⟩), .string (B n)] (w.drewN k) fun e w' => e = .returned (.int .i64 (looseD D n : Nat)) ∧ ∃ m, w' = w.drewN m := by
  refine (rLoose (h.later ((Below.refl w.heap.size w).drewN k)) n hn).mono ?_
  rintro e w' ⟨he, m, rfl⟩
  exact ⟨he, k + m, by rw [World.drewN_drewN]⟩
set_option maxRecDepth 100000 in
set_option maxHeartbeats 8000000 in
theorem DiskApart_calls (w : World) (p q : Option Addr) (cap qc : Nat) (l : List StepD) (keep : List Int) (hl : l.length ≤ maxLen) (h : StepsArg w p l) (hkl : keep.length ≤ maxLen) (hk : IntsAt w q keep ∧ IntsIn keep) :
    Calls Try.prog 7 #[.slice p l.length cap, .slice q keep.length qc] w fun e w' => e = .returned (.bool true) ∧ Below w.heap.size w w' := by
  have HHV := Lib.hid (Heavy_f p l cap w hl h)
  have HA := Lib.hid h
  have HK := Lib.hid hk
  unfold maxLen at hl hkl
  clear h hk
  cases hh : heavyB l || decide (100 < keep.length) with
  | true =>
    have hh2 : heavyB l = true ∨ (heavyB l = false ∧ 100 < keep.length) := by
      cases hb : heavyB l with
      | true => exact .inl rfl
      | false => right; rw [hb] at hh; exact ⟨rfl, by simpa using hh⟩
    rcases hh2 with hh2 | ⟨hh2, hh3⟩
    · rw [hh2] at HHV
      clear hh hh2
      go_enter Try.func7, Try.ntmps7
      go_wp2_with fail
      with_reducible refine HHV.out.mono ?_
      rintro e w1 ⟨rfl, hb1⟩
      have HB1 := Lib.hid hb1
      clear hb1
      go_wp2_with fail
      with_reducible refine (Works_f _).mono ?_
      rintro e w2 ⟨rfl, hb2⟩
      have HB2 := Lib.hid (HB1.out.trans (hb2.mono HB1.out.size))
      clear hb2
      go_wp2
      go_ret
      exact ⟨rfl, HB2.out⟩
    · rw [hh2] at HHV
      have hh4 : (100 : Int) < (keep.length : Int) := by omega
      clear hh hh2
      go_enter Try.func7, Try.ntmps7
      go_wp2_with fail
      with_reducible refine HHV.out.mono ?_
      rintro e w1 ⟨rfl, hb1⟩
      have HB1 := Lib.hid hb1
      clear hb1
      go_wp2_with fail
      with_reducible refine (Works_f _).mono ?_
      rintro e w2 ⟨rfl, hb2⟩
      have HB2 := Lib.hid (HB1.out.trans (hb2.mono HB1.out.size))
      clear hb2
      go_wp2
      go_ret
      exact ⟨rfl, HB2.out⟩
  | false =>
    simp only [Bool.or_eq_false_iff, decide_eq_false_iff_not] at hh
    obtain ⟨hh1, hh2⟩ := hh
    rw [hh1] at HHV
    have HSM := Lib.hid (fun x hx => heavy_small hh1 (x := x) hx)
    have hh4 : ¬ (100 : Int) < (keep.length : Int) := by omega
    have hh5 : keep.length ≤ 100 := by omega
    clear hh1 hh2
    go_enter Try.func7, Try.ntmps7
    go_wp2_with fail
    with_reducible refine HHV.out.mono ?_
    rintro e w1 ⟨rfl, hb1⟩
    have HN := Lib.hid (show Calls Try.prog 8 #[.int .i64 4096] w1 fun e w' => ∃ b, e = .returned (.tuple #[.pointer (some ⟨b, 0, none⟩), .int .i64 0]) ∧ DW w w' b ⟨4096, [], false, 0⟩ from DW.new (r := 4096) (by omega) hb1)
    clear hb1
    go_wp2_with fail
    with_reducible refine HN.out.mono ?_
    rintro e w2 ⟨b, rfl, h2⟩
    have H2 := Lib.hid h2
    clear h2 HN HHV
    go_wp2_with fail
    go_loopw [7] (fun u wr => ∃ (i : Nat) (D : DiskD), u = .int .i64 (i : Int) ∧ i ≤ l.length ∧ DW w wr b D) (fun u _ => l.length - (intOf u).toNat)
    case atStart => exact ⟨0, _, rfl, Nat.zero_le _, H2.out⟩
    case round =>
      obtain ⟨i, D, rfl, hi, hd⟩ := hrel
      by_cases hil : i < l.length
      · have t1 : (i : Int) < (l.length : Int) := by omega
        have t2 : 0 ≤ (i : Int) := by omega
        obtain ⟨bs, os, rfl, hst, hfit⟩ := HA.out.below hd.1 i hil
        obtain ⟨c0, c1, c2, c3, c4, c5⟩ := hst
        obtain ⟨hs1, hs2, hs3, hs4⟩ := HSM.out l[i] (List.getElem_mem hil)
        have HSO := Lib.hid (show StepOk l[i] from ⟨by unfold maxLen; omega, by unfold maxLen; omega, hfit.n, hfit.keep, by omega⟩)
        have HFT := Lib.hid hfit.ints
        have HDD := Lib.hid hd
        have hal : Below wr.heap.size wr (wr.alloc (.cells (stepCs l[i]) 36)) := (Below.refl _ _).alloc (Nat.le_refl _) _
        have hcm := cells_made wr (stepCs l[i]) 36
        have HAL := Lib.hid hal
        have HCM := Lib.hid hcm
        have HNM := Lib.hid (sNames (hd.later hal))
        have HFI := Lib.hid hd.fine
        have HOT := Lib.hid (fun (h5 : l[i].do_ ≤ 5) m (hm : m ≠ l[i].name) => does_other (D := D) l[i] h5 hm)
        have HDK := Lib.hid (fun (w' : World) (hb : Below wr.heap.size wr w') => Does_k hd hb l[i] HSO.out (ints_kept (T := fun _ => False) hfit.ints (Kept.of_below hb) (fun _ _ h => h)))
        have hlt := lt_of_cell c0
        clear hd hfit hs1 hs2 hs3 hs4 hal hcm
        generalize l[i] = x at *
        obtain ⟨dd, nm, st, nn, yy, kk, kp, kc⟩ := x
        simp only [stepV, stepCs] at c0 c1 c2 c3 c4 c5 HAL HCM HNM HDK
        generalize doesD D ⟨dd, nm, st, nn, yy, kk, kp, kc⟩ = dr at *
        obtain ⟨D2, code⟩ := dr
        simp only at HOT HDK
        go_wp2_with fail
        have HSB := Lib.hid (alloc_more wr (.cells #[.int .i64 dd, .string (B nm), .string (B st), .int .i64 nn, .int .u8 (yy.toNat : Int), .slice kp kk.length kc] 36))
        clear c0 c1 c2 c3 c4 c5 hlt
        generalize (wr.alloc (.cells #[.int .i64 dd, .string (B nm), .string (B st), .int .i64 nn, .int .u8 (yy.toNat : Int), .slice kp kk.length kc] 36)) = ws at *
        obtain ⟨sb, hsb⟩ : ∃ sb, sb = wr.heap.size := ⟨_, rfl⟩
        rw [← hsb] at HCM HSB ⊢
        have HSE := Lib.hid hsb
        clear hsb
        with_reducible refine HNM.out.mono ?_
        rintro e w4 ⟨pn, cn, rfl, hq, hb4⟩
        have HQ := Lib.hid hq
        have HB4 := Lib.hid hb4
        have H4 := Lib.hid ((HDD.out.later HAL.out).later hb4)
        obtain ⟨nl, hnl⟩ : ∃ nl, nl = (namesD D).length := ⟨_, rfl⟩
        have hnl2 : nl ≤ 16 := by rw [hnl, names_len]; exact HFI.out.few
        rw [← hnl]
        have HNL := Lib.hid hnl
        clear hq hb4 hnl HNM
        go_wp2_with fail
        go_loopw [10, 11] (fun v u wx => ∃ (k : Nat), u = .int .i64 (k : Int) ∧ k ≤ nl ∧ wx.ownsRow w4.heap.size 9 1 v k (wasOf D k) ∧ Below w4.heap.size w4 wx) (fun _ u _ => nl - (intOf u).toNat)
        case atStart => exact ⟨0, rfl, Nat.zero_le _, World.ownsRow_nil _ _ _ _, Below.refl _ _⟩
        case round =>
          obtain ⟨k, rfl, hk, how, hbe⟩ := hrel
          have HOW := Lib.hid how
          have HBE := Lib.hid hbe
          clear how hbe
          by_cases hkl : k < nl
          · have hkl2 : k < (namesD D).length := by rw [← HNL.out]; exact hkl
            have u1 : (k : Int) < (nl : Int) := by omega
            have u2 : 0 ≤ (k : Int) := by omega
            obtain ⟨gq, rfl, hgq1, hgq2, hcq⟩ := HQ.out k hkl2
            have hcw : wr.cell? ⟨gq, k, none⟩ = some (.string (B (namesD D)[k])) := (HBE.out.cell (p := ⟨gq, k, none⟩) hgq2).trans hcq
            obtain ⟨_, _, hn40⟩ := HFI.out.has (List.getElem_mem hkl2)
            have HRD := Lib.hid (kRead (H4.out.later HBE.out) (namesD D)[k] (by unfold maxLen; omega))
            have HW := Lib.hid (wasOf_succ D k hkl2)
            have hwl := wasOf_len D k (by omega)
            obtain ⟨ga, ca, wa, hra, hga⟩ := append_key wr w4.heap.size HBE.out.size _ _ (by rw [hwl]; exact HOW.out) (readD D (namesD D)[k]).1 (by rw [hwl]; omega)
            have HGA := Lib.hid (show wa.ownsRow w4.heap.size 9 1 (.slice (some ⟨ga, 0, none⟩) (k + 1) ca) (k + 1) (wasOf D (k + 1)) ∧ Below w4.heap.size w4 wa from by
              have h1 := hga.own
              rw [hwl, ← HW.out] at h1
              exact ⟨h1, HBE.out.trans (hga.below HOW.out HBE.out.size)⟩)
            rw [hwl] at hra
            have HRA := Lib.hid hra
            clear hra hga hcq hn40 hwl
            generalize (namesD D)[k] = nmk at *
            obtain ⟨rc, hrc⟩ : ∃ rc, rc = (readD D nmk).2 := ⟨_, rfl⟩
            rw [← hrc] at HRD
            generalize (readD D nmk).1 = sk at *
            clear hrc
            go_wp2_with fail
            with_reducible refine HRD.out.mono ?_
            rintro e w5 ⟨rfl, rfl⟩
            go_wp2_with (at_builtin; refine wpList_append_run2 rfl _ _ _ _ rfl rfl rfl HRA.out ?_)
            go_roundw
            case rel =>
              first
                | exact ⟨k + 1, by go_num, hkl, HGA.out⟩
                | ((repeat apply Exists.intro); exact ⟨⟨k + 1, by go_num, hkl, HGA.out⟩, rfl⟩)
            case measure => simp [intOf]; omega
          · obtain rfl : k = nl := by omega
            have u1 : ¬ (k : Int) < (k : Int) := by omega
            have hwl := wasOf_len D k (by rw [← HNL.out]; exact Nat.le_refl _)
            obtain ⟨pw, cw, rfl, -, hcw⟩ := own_cells HOW.out
            have HCW := Lib.hid hcw
            have hbs : Below ws.heap.size ws wr := HB4.out.trans (HBE.out.mono HB4.out.size)
            have hbr := HAL.out.trans (hbs.mono HAL.out.size)
            have hcs : ∀ j, j < 6 → wr.cell? ⟨sb, j, none⟩ = some (#[Value.int .i64 dd, .string (B nm), .string (B st), .int .i64 nn, .int .u8 (yy.toNat : Int), .slice kp kk.length kc][j]!) := fun j hj => (hbs.cell (p := ⟨sb, j, none⟩) (by rw [HSB.out]; exact Nat.lt_succ_self _)).trans (HCM.out j hj).1
            have s0 := hcs 0 (by omega)
            have s1 := hcs 1 (by omega)
            have s2 := hcs 2 (by omega)
            have s3 := hcs 3 (by omega)
            have s4 := hcs 4 (by omega)
            have s5 := hcs 5 (by omega)
            simp only [List.getElem!_toArray, List.getElem!_cons_zero, List.getElem!_cons_succ] at s0 s1 s2 s3 s4 s5
            have HD9 := Lib.hid (HDK.out wr hbr)
            have hsx : sb < wr.heap.size := lt_of_cell s0
            clear hcw hcs hbr
            go_wp2_with fail
            with_reducible refine HD9.out.mono ?_
            rintro e w6 ⟨rfl, h6, hk6⟩
            have H6 := Lib.hid h6
            have HK6 := Lib.hid hk6
            have q0 := cell_kept s0 hk6 (fun h => by have := HSE.out; omega)
            have q1 := cell_kept s1 hk6 (fun h => by have := HSE.out; omega)
            have HFAR := Lib.hid (show ∀ g j v, sb ≤ g → wr.cell? ⟨g, j, none⟩ = some v → w6.cell? ⟨g, j, none⟩ = some v from fun g j v hg hc => cell_kept hc HK6.out (fun h => by have := HSE.out; omega))
            have HQ6 := Lib.hid (show ∀ j (hj : j < (namesD D).length), ∃ g, pn = some ⟨g, 0, none⟩ ∧ w6.cell? ⟨g, j, none⟩ = some (.string (B (namesD D)[j])) from fun j hj => by
              obtain ⟨g, h1, h2, h3, h4⟩ := HQ.out j hj
              exact ⟨g, h1, HFAR.out _ _ _ (by have := HSE.out; have := HAL.out.size; omega) ((HBE.out.cell (p := ⟨g, j, none⟩) h3).trans h4)⟩)
            have HW6 := Lib.hid (show ∀ j (hj : j < k) (hj2 : j < (namesD D).length), ∃ g, pw = some ⟨g, 0, none⟩ ∧ w6.cell? ⟨g, j, none⟩ = some (.string (B (readD D (namesD D)[j]).1)) from fun j hj hj2 => by
              obtain ⟨g, h1, h2, h3, h4⟩ := HCW.out j (by rw [hwl]; exact hj)
              refine ⟨g, h1, HFAR.out _ _ _ (by have := HSE.out; have := HAL.out.size; have := HB4.out.size; omega) (h4.trans ?_)⟩
              simp [wasOf])
            clear h6 hk6 HD9 HDK s0 s1 s2 s3 s4 s5 hsx hbs hwl HFAR HCW HQ HBE HOW HB4 HAL HCM HSB HK6
            go_wp2_with fail
            have HW6D := Lib.hid (show ∀ m, DW w (w6.drewN m) b D2 from fun m => H6.out.later ((Below.refl _ _).drewN m))
            go_loopw [14] (fun u wt => ∃ (z m : Nat), u = .int .i64 (z : Int) ∧ z ≤ k ∧ wt = w6.drewN m) (fun u _ => k - (intOf u).toNat)
            case atStart => exact ⟨0, 0, rfl, Nat.zero_le _, rfl⟩
            case round =>
              obtain ⟨z, m, rfl, hz, rfl⟩ := hrel
              by_cases hzk : z < k
              · have t5 : (z : Int) < (k : Int) := by omega
                have t6 : 0 ≤ (z : Int) := by omega
                have q0w : (w6.drewN m).cell? ⟨sb, 0, none⟩ = some (.int .i64 dd) := q0
                by_cases hd5 : dd ≤ 5
                · have hz2 : z < (namesD D).length := by rw [← HNL.out]; exact hzk
                  obtain ⟨gq, rfl, hcq⟩ := HQ6.out z hz2
                  obtain ⟨gw, rfl, hcw⟩ := HW6.out z hzk hz2
                  replace hcq : (w6.drewN m).cell? ⟨gq, z, none⟩ = some (.string (B (namesD D)[z])) := hcq
                  replace hcw : (w6.drewN m).cell? ⟨gw, z, none⟩ = some (.string (B (readD D (namesD D)[z]).1)) := hcw
                  have q1w : (w6.drewN m).cell? ⟨sb, 1, none⟩ = some (.string (B nm)) := q1
                  obtain ⟨_, _, hn40⟩ := HFI.out.has (List.getElem_mem hz2)
                  have HRD := Lib.hid (kRead (HW6D.out m) (namesD D)[z] (by unfold maxLen; omega))
                  have HDR := Lib.hid (show ∀ n, (w6.drewN m).drewN n = w6.drewN (m + n) from fun n => by rw [World.drewN_drewN])
                  have hsame := HOT.out hd5 (namesD D)[z]
                  clear q0 q1
                  generalize (namesD D)[z] = nmk at *
                  obtain ⟨tk, htk⟩ : ∃ tk, tk = (readD D2 nmk).1 := ⟨_, rfl⟩
                  obtain ⟨rc, hrc⟩ : ∃ rc, rc = (readD D2 nmk).2 := ⟨_, rfl⟩
                  rw [← htk, ← hrc] at HRD
                  generalize w6.drewN m = wd at *
                  by_cases hnm : nmk = nm
                  · subst hnm
                    clear hsame htk hrc hcw
                    go_wp2_with fail
                    with_reducible refine HRD.out.mono ?_
                    rintro e w8 ⟨rfl, rfl⟩
                    go_wp2_with fail
                    go_quiet (fail)
                    go_wp2_with fail
                    go_roundw
                    case rel =>
                      first
                        | exact ⟨z + 1, _, by go_num, hzk, HDR.out _⟩
                        | ((repeat apply Exists.intro); exact ⟨⟨z + 1, _, by go_num, hzk, HDR.out _⟩, rfl⟩)
                    case measure => simp [intOf]; omega
                  · have he := hsame hnm
                    rw [← he, ← htk] at hcw
                    have hnb : (nmk == nm) = false := by simpa using hnm
                    clear hsame htk hrc he
                    go_wp2_with fail
                    with_reducible refine HRD.out.mono ?_
                    rintro e w8 ⟨rfl, rfl⟩
                    go_wp2_with fail
                    go_quiet (fail)
                    go_wp2_with fail
                    go_roundw
                    case rel =>
                      first
                        | exact ⟨z + 1, _, by go_num, hzk, HDR.out _⟩
                        | ((repeat apply Exists.intro); exact ⟨⟨z + 1, _, by go_num, hzk, HDR.out _⟩, rfl⟩)
                    case measure => simp [intOf]; omega
                · have hd6 : ¬ dd ≤ 5 := hd5
                  have HDE := Lib.hid (HW6D.out m)
                  clear q0 q1
                  generalize w6.drewN m = wd at *
                  go_wp2_with fail
                  go_roundw
                  case rel =>
                    first
                      | exact ⟨i + 1, D2, by go_num, hil, HDE.out⟩
                      | ((repeat apply Exists.intro); exact ⟨⟨i + 1, D2, by go_num, hil, HDE.out⟩, rfl⟩)
                  case measure => simp [intOf]; omega
              · obtain rfl : z = k := by omega
                have t5 : ¬ (z : Int) < (z : Int) := by omega
                have HDE := Lib.hid (HW6D.out m)
                clear q0 q1
                generalize w6.drewN m = wd at *
                go_wp2_with fail
                go_roundw
                case rel =>
                  first
                    | exact ⟨i + 1, D2, by go_num, hil, HDE.out⟩
                    | ((repeat apply Exists.intro); exact ⟨⟨i + 1, D2, by go_num, hil, HDE.out⟩, rfl⟩)
                case measure => simp [intOf]; omega
      · obtain rfl : i = l.length := by omega
        have HD := Lib.hid hd
        have HFI := Lib.hid hd.fine
        have t1 : ¬ (l.length : Int) < (l.length : Int) := by omega
        have hkw : IntsAt wr q keep := ints_kept (T := fun _ => False) HK.out.1 (Kept.of_below hd.1) (fun _ _ h => h)
        obtain ⟨p2, c2, w5, hr2, hi2, hc2, hm2, hb2, hp2⟩ := append_ints wr q qc keep hkw (by omega)
        have HR2 := Lib.hid hr2
        have HC := Lib.hid (hd.crash2 hb2 p2 keep c2 hi2 HK.out.2 hc2 hm2 hp2)
        clear hr2 hi2 hc2 hm2 hb2 hp2 hkw hd
        generalize wr = w3 at *
        go_wp2_with (at_builtin; refine wpList_append_run2 rfl _ _ _ _ rfl rfl rfl HR2.out ?_)
        with_reducible refine HC.out.mono ?_
        rintro e w6 ⟨rfl, h6, -⟩
        have H6 := Lib.hid h6
        have HCP := Lib.hid h6.copy
        clear h6 HC HR2 HD
        go_wp2_with fail
        with_reducible refine HCP.out.mono ?_
        rintro e w7 ⟨c, rfl, h7, hb7⟩
        have H7 := Lib.hid h7
        have HB7 := Lib.hid hb7
        have HC2 := Lib.hid (show Calls Try.prog 17 #[.pointer (some ⟨b, 0, none⟩), .slice none 0 0] w7 fun e w' => e = .returned (.int .i64 0) ∧ DW w w' b (crashD (crashD D keep) []) ∧ Kept (fun i => w.heap.size ≤ i ∧ i < w6.heap.size) w7 w' from H6.out.crash2 hb7 none [] 0 (fun j hj => by simp at hj) (fun x hx => by simp at hx) (Nat.le_refl _) (by decide) (fun a ha => by cases ha))
        clear h7 hb7 HCP
        go_wp2_with fail
        with_reducible refine HC2.out.mono ?_
        rintro e w8 ⟨rfl, h8, k8⟩
        rw [crash_twice HFI.out] at h8
        have hc8 : DW w w8 c (crashD D keep) := ⟨h8.1, _, H7.out.next (k8.mono fun i hi hn => by omega), fun i hi => Nat.le_trans H6.out.1.size hi.1⟩
        have H8 := Lib.hid h8
        have HE8 := Lib.hid hc8
        have HST := Lib.hid (crash_settles HFI.out keep)
        have HF8 := Lib.hid h8.fine
        clear h8 k8 hc8 HC2 H7 HB7 H6 HFI
        generalize crashD D keep = D' at *
        have HN1 := Lib.hid (sNames H8.out)
        go_wp2_with fail
        with_reducible refine HN1.out.mono ?_
        rintro e w9 ⟨pn, cn, rfl, hq9, hb9⟩
        have HQ9 := Lib.hid hq9
        have HB9 := Lib.hid hb9
        have HN2 := Lib.hid (sNames (HE8.out.later hb9))
        clear hq9 hb9 HN1
        go_wp2_with fail
        with_reducible refine HN2.out.mono ?_
        rintro e wa ⟨pm, cm, rfl, hqa, hba⟩
        have HQA := Lib.hid hqa
        have HD1 := Lib.hid (H8.out.later (HB9.out.trans (hba.mono HB9.out.size)))
        have HD2 := Lib.hid (HE8.out.later (HB9.out.trans (hba.mono HB9.out.size)))
        obtain ⟨nl, hnl⟩ : ∃ nl, nl = (namesD D').length := ⟨_, rfl⟩
        have hnl2 : nl ≤ 16 := by rw [hnl, names_len]; exact HF8.out.few
        have HQ1 := Lib.hid (show ∀ j (hj : j < (namesD D').length), ∃ g, pn = some ⟨g, 0, none⟩ ∧ wa.cell? ⟨g, j, none⟩ = some (.string (B (namesD D')[j])) from fun j hj => by
          obtain ⟨g, h1, h2, h3, h4⟩ := HQ9.out j hj
          exact ⟨g, h1, (hba.cell (p := ⟨g, j, none⟩) h3).trans h4⟩)
        rw [← hnl]
        have HNL := Lib.hid hnl
        clear hqa hba hnl HN2 HQ9 HB9 H8 HE8
        go_wp2_with fail
        go_loopw [20] (fun u wt => ∃ (z m : Nat), u = .int .i64 (z : Int) ∧ z ≤ nl ∧ wt = wa.drewN m) (fun u _ => nl - (intOf u).toNat)
        case atStart => exact ⟨0, 0, rfl, Nat.zero_le _, rfl⟩
        case round =>
          obtain ⟨z, m, rfl, hz, rfl⟩ := hrel
          by_cases hzk : z < nl
          · have hz2 : z < (namesD D').length := by rw [← HNL.out]; exact hzk
            have t5 : (z : Int) < (nl : Int) := by omega
            have t6 : 0 ≤ (z : Int) := by omega
            obtain ⟨gq, rfl, hcq⟩ := HQ1.out z hz2
            obtain ⟨gm, rfl, -, -, hcm⟩ := HQA.out z hz2
            replace hcq : (wa.drewN m).cell? ⟨gq, z, none⟩ = some (.string (B (namesD D')[z])) := hcq
            replace hcm : (wa.drewN m).cell? ⟨gm, z, none⟩ = some (.string (B (namesD D')[z])) := hcm
            obtain ⟨_, _, hn40⟩ := HF8.out.has (List.getElem_mem hz2)
            have HRD := Lib.hid (kRead (HD1.out.later ((Below.refl _ _).drewN m)) (namesD D')[z] (by unfold maxLen; omega))
            have HRE := Lib.hid (kRead (HD2.out.later ((Below.refl _ _).drewN m)) (namesD D')[z] (by unfold maxLen; omega))
            have HLS := Lib.hid (fun n => zLoose (HD1.out.later ((Below.refl _ _).drewN m)) (namesD D')[z] (by unfold maxLen; omega) n)
            have HDR := Lib.hid (show ∀ n, (wa.drewN m).drewN n = wa.drewN (m + n) from fun n => by rw [World.drewN_drewN])
            rw [settled_loose HST.out] at HLS
            generalize (namesD D')[z] = nmk at *
            obtain ⟨tk, htk⟩ : ∃ tk, tk = (readD D' nmk).1 := ⟨_, rfl⟩
            obtain ⟨rc, hrc⟩ : ∃ rc, rc = (readD D' nmk).2 := ⟨_, rfl⟩
            rw [← htk, ← hrc] at HRD HRE
            clear htk hrc
            generalize wa.drewN m = wd at *
            go_wp2_with fail
            with_reducible refine HRD.out.mono ?_
            rintro e wx ⟨rfl, rfl⟩
            go_wp2_with fail
            with_reducible refine HRE.out.mono ?_
            rintro e wx ⟨rfl, rfl⟩
            go_wp2_with fail
            go_quiet ((go_at_call 16; exact HLS.out _))
            go_wp2_with fail
            go_roundw
            case rel =>
              first
                | exact ⟨z + 1, _, by go_num, hzk, HDR.out _⟩
                | ((repeat apply Exists.intro); exact ⟨⟨z + 1, _, by go_num, hzk, HDR.out _⟩, rfl⟩)
            case measure => simp [intOf]; omega
          · obtain rfl : z = nl := by omega
            have t5 : ¬ (z : Int) < (z : Int) := by omega
            have HX := Lib.hid (HD1.out.later ((Below.refl _ _).drewN m))
            generalize wa.drewN m = wd at *
            go_wp2_with fail
            with_reducible refine (Works_f _).mono ?_
            rintro e wx ⟨rfl, hbx⟩
            have HBX := Lib.hid (HX.out.1.trans (hbx.mono HX.out.1.size))
            clear hbx
            go_wp2
            go_ret
            exact ⟨rfl, HBX.out⟩
end Go.Proofs.Ytnmkdchgihgbhaa.Dk
