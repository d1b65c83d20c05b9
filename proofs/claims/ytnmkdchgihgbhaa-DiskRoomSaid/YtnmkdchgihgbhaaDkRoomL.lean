/-
  Disks (layer 7): the statement DiskRoom, walked. Conditions: the room is of its kind, the script lies in memory, its texts and lists are within the reach.
-/
import Derived.Test.YtnmkdchgihgbhaaDkRoomM
import Derived.Deep.QuietTactic
import Derived.BigQuiet
open Go Go.RowKit
namespace Go.Proofs.Ytnmkdchgihgbhaa.Dk
open Base Mp
attribute [local go_sem ↓] Go.wp_at_zero Go.wp_at_succ

theorem kNames2 {w0 w : World} {b : Nat} {D : DiskD} (h : DW w0 w b D) : Calls Try.prog 11 #[.pointer (some ⟨b, 0, none⟩)] w fun e w' => ∃ p cap, e = .returned (.slice p (namesD D).length cap) ∧ (∀ j (hj : j < (namesD D).length), ∃ g, p = some ⟨g, 0, none⟩ ∧ g < w'.heap.size ∧ w'.cell? ⟨g, j, none⟩ = some (.string (B (namesD D)[j]))) ∧ DW w0 w' b D := by
  obtain ⟨hb, T, hd, hT⟩ := h
  refine (Names_f hd).mono ?_
  rintro e w' ⟨v, he, hr, hk⟩
  obtain ⟨p, cap, rfl, hq⟩ := names_form hr
  exact ⟨p, cap, he, fun j hj => by
    obtain ⟨g, h1, _, h3, h4⟩ := hq j hj
    exact ⟨g, h1, h3, h4⟩, DW.later ⟨hb, T, hd, hT⟩ hk⟩
theorem qLoose {w0 w : World} {b : Nat} {D : DiskD} (h : DW w0 w b D) (n : Key) (hn : n.length ≤ maxLen) (k : Nat) : Calls Try.prog 16 #[.pointer (some ⟨b, 0, none⟩), .string (B n)] (w.drewN k) fun e w' => e = .returned (.int .i64 (looseD D n : Nat)) ∧ ∃ m, w' = w.drewN m := by
  have h2 := h.later ((Below.refl w.heap.size w).drewN k)
  obtain ⟨hb, T, hd, hT⟩ := h2
  refine (Loose_f hd n hn).mono ?_
  rintro e w' ⟨he, m, rfl⟩
  exact ⟨he, k + m, by rw [World.drewN_drewN]⟩
set_option maxRecDepth 100000 in
set_option maxHeartbeats 8000000 in
theorem DiskRoom_calls (w : World) (r : Nat) (p : Option Addr) (cap : Nat) (l : List StepD) (hr : r < 65536) (hl : l.length ≤ maxLen) (h : StepsArg w p l) : Calls Try.prog 5 #[.int .u16 (r : Int), .slice p l.length cap] w fun e w' => e = .returned (.bool true) ∧ Below w.heap.size w w' := by
  have HHV := Lib.hid (Heavy_f p l cap w hl h)
  have HA := Lib.hid h
  unfold maxLen at hl
  clear h
  cases hh : heavyB l with
  | true =>
    rw [hh] at HHV
    clear hh
    go_enter Try.func5, Try.ntmps5
    go_wp2_with fail
    with_reducible refine HHV.out.mono ?_
    rintro e w1 ⟨rfl, hb1⟩
    have HB1 := Lib.hid hb1
    clear hb1
    go_wp2_with fail
    with_reducible refine (Works_f _).mono ?_
    rintro e w2 ⟨rfl, hb2⟩
    have HB2 := Lib.hid (HB1.out.trans (hb2.mono HB1.out.size))
    clear hb2
    go_wp2
    go_ret
    exact ⟨rfl, HB2.out⟩
  | false =>
    rw [hh] at HHV
    have HSM := Lib.hid (fun x hx => heavy_small hh (x := x) hx)
    clear hh
    go_enter Try.func5, Try.ntmps5
    go_wp2_with fail
    with_reducible refine HHV.out.mono ?_
    rintro e w1 ⟨rfl, hb1⟩
    have HN := Lib.hid (DW.new (r := r) (by omega) hb1)
    clear hb1
    go_wp2_with fail
    with_reducible refine HN.out.mono ?_
    rintro e w2 ⟨b, rfl, h2⟩
    have H2 := Lib.hid h2
    clear h2 HN HHV
    go_wp2_with fail
    go_loopw [7] (fun u wr => ∃ (i : Nat) (D : DiskD), u = .int .i64 (i : Int) ∧ i ≤ l.length ∧ DW w wr b D ∧ D.room = r) (fun u _ => l.length - (intOf u).toNat)
    case atStart => exact ⟨0, _, rfl, Nat.zero_le _, H2.out, rfl⟩
    case round =>
      obtain ⟨i, D, rfl, hi, hd, hro⟩ := hrel
      by_cases hil : i < l.length
      · have t1 : (i : Int) < (l.length : Int) := by omega
        have t2 : 0 ≤ (i : Int) := by omega
        obtain ⟨bs, os, rfl, hst, hfit⟩ := HA.out.below hd.1 i hil
        obtain ⟨c0, c1, c2, c3, c4, c5⟩ := hst
        obtain ⟨hs1, hs2, hs3, hs4⟩ := HSM.out l[i] (List.getElem_mem hil)
        have HDO := Lib.hid (Does_f hd l[i] ⟨by unfold maxLen; omega, by unfold maxLen; omega, hfit.n, hfit.keep, by omega⟩ hfit.ints)
        have HRO := Lib.hid (show (doesD D l[i]).1.room = r by rw [does_room]; exact hro)
        have hlt := lt_of_cell c0
        clear hd hfit hro hs2 hs3 hs4
        generalize l[i] = x at *
        obtain ⟨dd, nm, st, nn, yy, kk, kp, kc⟩ := x
        simp only [stepV, stepCs] at c0 c1 c2 c3 c4 c5 HDO
        generalize doesD D ⟨dd, nm, st, nn, yy, kk, kp, kc⟩ = dr at *
        obtain ⟨D2, code⟩ := dr
        simp only at HDO HRO
        go_wp2_with fail
        with_reducible refine HDO.out.mono ?_
        rintro e w3 ⟨rfl, h3⟩
        have H3 := Lib.hid h3
        clear h3 HDO c0 c1 c2 c3 c4 c5 hlt
        go_wp2_with fail
        with_reducible refine (kNames2 H3.out).mono ?_
        rintro e w4 ⟨q, cq, rfl, hq, h4⟩
        have H4 := Lib.hid h4
        have HQ := Lib.hid hq
        have HFI := Lib.hid h4.fine
        obtain ⟨nl, hnl⟩ : ∃ nl, nl = (namesD D2).length := ⟨_, rfl⟩
        have hnl2 : nl ≤ 16 := by rw [hnl, names_len]; exact h4.fine.few
        rw [← hnl]
        have HNL := Lib.hid hnl
        have htot : total D2.files ≤ 65535 := by have := h4.fine.fits; have := HRO.out; omega
        clear h4 hq hnl H3
        go_wp2_with fail
        go_loopw [9, 10] (fun v u wr => ∃ (k m : Nat), u = .int .i64 (k : Int) ∧ v = .int .i64 (((((namesD D2).take k).map (lenOf D2)).sum : Nat) : Int) ∧ k ≤ nl ∧ wr = w4.drewN m) (fun _ u _ => nl - (intOf u).toNat)
        case atStart => exact ⟨0, 0, rfl, rfl, Nat.zero_le _, rfl⟩
        case round =>
          obtain ⟨k, m, rfl, rfl, hk, rfl⟩ := hrel
          by_cases hkl : k < nl
          · have hkl2 : k < (namesD D2).length := by rw [← HNL.out]; exact hkl
            have u1 : (k : Int) < (nl : Int) := by omega
            have u2 : 0 ≤ (k : Int) := by omega
            obtain ⟨gq, rfl, hgq, hcq⟩ := HQ.out k hkl2
            have hcw : (w4.drewN m).cell? ⟨gq, k, none⟩ = some (.string (B (namesD D2)[k])) := hcq
            obtain ⟨F, hF, hre, hlo⟩ := read_file HFI.out (List.getElem_mem hkl2)
            obtain ⟨_, _, hn40⟩ := HFI.out.has (List.getElem_mem hkl2)
            have HRD := Lib.hid (kRead (H4.out.later ((Below.refl w4.heap.size w4).drewN m)) (namesD D2)[k] (by unfold maxLen; omega))
            rw [hre] at HRD
            dsimp only at HRD
            have HLS := Lib.hid (fun n => qLoose (H4.out.later ((Below.refl w4.heap.size w4).drewN m)) (namesD D2)[k] (by unfold maxLen; omega) n)
            rw [hlo] at HLS
            have HST := Lib.hid (show (((namesD D2).take (k + 1)).map (lenOf D2)).sum = (((namesD D2).take k).map (lenOf D2)).sum + F.bytes.length by rw [sum_take D2 k hkl2]; unfold lenOf; rw [hre])
            have hsb : (((namesD D2).take k).map (lenOf D2)).sum ≤ 65535 := Nat.le_trans (sum_le D2 k) (by rw [names_total HFI.out]; exact htot)
            have hsure := HFI.out.sure _ (mem_of_look hF)
            have hshort := HFI.out.short (mem_of_look hF)
            simp only at hsure hshort
            have HPR := Lib.hid (fun (hk0 : 0 < k) => names_rise HFI.out hkl2 (i := k - 1) (by omega))
            have HPC := Lib.hid (fun (hk0 : 0 < k) => (HQ.out (k - 1) (by omega)))
            generalize hnm : (namesD D2)[k] = nmk at *
            generalize hsum : (((namesD D2).take k).map (lenOf D2)).sum = sm at *
            have e1 : ¬ (((F.bytes.length - F.sure : Nat) : Int) < 0) := by omega
            have e2 : ¬ ((F.bytes.length : Int) < ((F.bytes.length - F.sure : Nat) : Int)) := by omega
            obtain ⟨lo, hlo2⟩ : ∃ lo, lo = F.bytes.length - F.sure := ⟨_, rfl⟩
            rw [← hlo2] at e1 e2 HLS
            clear hlo2 hlo hre hF hnm
            have HWD := Lib.hid (show ∀ n, (w4.drewN m).drewN n = w4.drewN (m + n) from fun n => by rw [World.drewN_drewN])
            have HPW := Lib.hid (fun (hk0 : 0 < k) => show (w4.drewN m).cell? ⟨gq, k - 1, none⟩ = some (.string (B (namesD D2)[k - 1])) by
              obtain ⟨g2, he2, hg2, hc2⟩ := HPC.out hk0
              injection he2 with he2
              injection he2 with he2 _
              subst he2
              exact hc2)
            generalize w4.drewN m = wd at *
            by_cases hk0 : 0 < k
            · have v0 : (0 : Int) < (k : Int) := by omega
              have hc2w := HPW.out hk0
              have hlt2 : Op.bytesLess (namesD D2)[k - 1] nmk = true := by rw [bytesLess_eq]; exact decide_eq_true (HPR.out hk0)
              have hne2 : (namesD D2)[k - 1] ≠ nmk := fun e => by have := HPR.out hk0; rw [e] at this; exact List.lt_irrefl _ this
              have hne3 : ((namesD D2)[k - 1] == nmk) = false := by simpa using hne2
              have hlt3 : Op.bytesLess nmk (namesD D2)[k - 1] = false := by rw [bytesLess_eq]; exact decide_eq_false (List.lt_asymm (HPR.out hk0))
              clear HPW HPC HPR hne2
              generalize (namesD D2)[k - 1] = np at *
              obtain ⟨k1, hk1⟩ : ∃ k1, k1 = k - 1 := ⟨_, rfl⟩
              rw [← hk1] at hc2w
              have v2 : (k : Int) - 1 = (k1 : Int) := by omega
              have v3 : IntKind.i64.wrap (k1 : Int) = (k1 : Int) := by rw [IntKind.wrap_i64]; omega
              have v4 : (k1 : Int) < (nl : Int) := by omega
              have v5 : 0 ≤ (k1 : Int) := by omega
              clear hk1
              go_wp2_with fail
              with_reducible refine HRD.out.mono ?_
              rintro e w5 ⟨rfl, rfl⟩
              go_wp2_with fail
              have g1 : decide ((lo : Int) < 0) = false := decide_eq_false (by omega)
              have g2 : decide ((F.bytes.length : Int) < (lo : Int)) = false := decide_eq_false (by omega)
              go_quiet ((go_at_call 16; exact HLS.out _))
              go_wp2_with fail
              go_roundw
              case rel =>
                first
                  | exact ⟨k + 1, _, by go_num, by rw [HST.out]; go_num, hkl, HWD.out _⟩
                  | ((repeat apply Exists.intro); exact ⟨⟨k + 1, _, by go_num, by rw [HST.out]; go_num, hkl, HWD.out _⟩, rfl⟩)
              case measure => simp [intOf]; omega
            · have v6 : decide (0 < k) = false := decide_eq_false hk0
              have v0 : ¬ (0 : Int) < (k : Int) := by omega
              clear HPW HPC HPR
              go_wp2_with fail
              with_reducible refine HRD.out.mono ?_
              rintro e w5 ⟨rfl, rfl⟩
              go_wp2_with fail
              have g1 : decide ((lo : Int) < 0) = false := decide_eq_false (by omega)
              have g2 : decide ((F.bytes.length : Int) < (lo : Int)) = false := decide_eq_false (by omega)
              go_quiet ((go_at_call 16; exact HLS.out _))
              go_wp2_with fail
              go_roundw
              case rel =>
                first
                  | exact ⟨k + 1, _, by go_num, by rw [HST.out]; go_num, hkl, HWD.out _⟩
                  | ((repeat apply Exists.intro); exact ⟨⟨k + 1, _, by go_num, by rw [HST.out]; go_num, hkl, HWD.out _⟩, rfl⟩)
              case measure => simp [intOf]; omega
          · obtain rfl : k = nl := by omega
            have HR := Lib.hid (kRoom (H4.out.later ((Below.refl w4.heap.size w4).drewN m)) (left D2) rfl)
            have hsum : (((namesD D2).take k).map (lenOf D2)).sum = total D2.files := by rw [HNL.out, List.take_length]; exact names_total HFI.out
            rw [hsum]
            have hle : left D2 = D2.room - total D2.files := rfl
            have hfit2 := HFI.out.fits
            have e0 : ((total D2.files : Nat) : Int) + ((left D2 : Nat) : Int) = (r : Int) := by have := HRO.out; omega
            have e3 : left D2 ≤ 65535 := by have := HRO.out; omega
            clear hsum hle hfit2 HQ
            generalize total D2.files = tt at *
            obtain ⟨lf, hlf⟩ : ∃ lf, lf = left D2 := ⟨_, rfl⟩
            rw [← hlf] at HR e0 e3
            have HLF := Lib.hid hlf
            clear hlf
            generalize w4.drewN m = wd at *
            go_wp2_with fail
            with_reducible refine HR.out.mono ?_
            rintro e w5 ⟨rfl, h5⟩
            have HR2 := Lib.hid (kRoom h5 lf HLF.out.symm)
            clear h5
            go_wp2_with fail
            with_reducible refine HR2.out.mono ?_
            rintro e w6 ⟨rfl, h6⟩
            have H6 := Lib.hid h6
            clear h6 HR HR2
            go_wp2_with fail
            go_roundw
            case rel =>
              first
                | exact ⟨i + 1, D2, by go_num, hil, H6.out, HRO.out⟩
                | ((repeat apply Exists.intro); exact ⟨⟨i + 1, D2, by go_num, hil, H6.out, HRO.out⟩, rfl⟩)
            case measure => simp [intOf]; omega
      · obtain rfl : i = l.length := by omega
        have HD := Lib.hid hd
        clear hd
        generalize wr = w3 at *
        have t1 : ¬ (l.length : Int) < (l.length : Int) := by omega
        go_wp2_with fail
        with_reducible refine (Works_f _).mono ?_
        rintro e w4 ⟨rfl, hb4⟩
        have HB4 := Lib.hid (HD.out.1.trans (hb4.mono HD.out.1.size))
        clear hb4
        go_wp2
        go_ret
        exact ⟨rfl, HB4.out⟩
end Go.Proofs.Ytnmkdchgihgbhaa.Dk
