/-
  Logs (layer 8): the statement LogAgain, walked. Conditions: the texts lie in memory and are within the reach; the sum's table is laid.
-/
import Derived.Test.YtpiaplgbpjgjiaaDoorLgSame
open Go Go.RowKit
namespace Go.Proofs.YtpiaplgbpjgjiaaDoor.Lg
open Base Mp Dk Frame

def nB : Key := [98]
theorem ab_ne : nB ≠ nA := by decide
theorem rows_arg {w' : World} {p : Option Addr} {rs : List Key} {Q : Nat → Prop} {z : Nat} (h : ∀ j (hj : j < rs.length), ∃ g, p = some ⟨g, 0, none⟩ ∧ z ≤ g ∧ g < w'.heap.size ∧ Q g ∧ w'.cell? ⟨g, j, none⟩ = some (.string (B rs[j]))) : RowArg w' p (strs rs) := fun j hj => by
  have hj' : j < rs.length := by rw [strs_length] at hj; exact hj
  obtain ⟨g, h1, _, h3, _, h5⟩ := h j hj'
  exact ⟨g, 0, h1, h3, by rw [Nat.zero_add, strs_at _ _ hj']; exact h5⟩
/-- What stays of the disk. -/
structure Ag (l : List Key) (other : Key) (D : DiskD) : Prop where
  fused : D.fused = false
  room : D.room = 65536
  file : ∃ s f, lookL D.files (keyS nA) = some ⟨puts l, s, f⟩ ∧ s ≤ (puts l).length
  b : lookL D.files (keyS nB) = some ⟨other, 0, true⟩
theorem again_start (l : List Key) (other : Key) (hs : other.length + weight l ≤ 4096) : ∃ D1 D2 D3 D4 L4, createD (DL0 65536) nB = (D1, 0) ∧ appendD D1 nB other = (D2, 0) ∧ openL D2 nA = (D3, some (⟨nA, 0, 0, 0, false⟩, []), 0) ∧ putRs D3 ⟨nA, 0, 0, 0, false⟩ l = (D4, L4, 0) ∧ Ag l other D4 ∧ D2.room = 65536 := by
  have f0 := fine0 (r := 65536) (by decide)
  have c1 := create_new (D := DL0 65536) (n := nB) rfl (by decide) rfl (by decide)
  have hl1 : lookL (putL (DL0 65536).files (keyS nB) (⟨[], 0, true⟩ : FileD)) (keyS nB) = some ⟨[], 0, true⟩ := look_put_same _ _ (isKey nB) _
  have f1 := f0.put (n := nB) (by decide) rfl (by decide)
  have l1 : left { DL0 65536 with files := putL (DL0 65536).files (keyS nB) ⟨[], 0, true⟩ } = 65536 := by rfl
  have c2 := append_some (D := { DL0 65536 with files := putL (DL0 65536).files (keyS nB) ⟨[], 0, true⟩ }) (n := nB) (s := other) rfl hl1 (by rw [l1]; omega)
  rw [List.nil_append] at c2
  have f2 : Fine (withFile { DL0 65536 with files := putL (DL0 65536).files (keyS nB) ⟨[], 0, true⟩ } (keyS nB) ⟨other, 0, true⟩) := f1.set hl1 (Nat.zero_le _) (by
    show 0 + other.length ≤ 65536 + 0
    omega)
  have l2 := with_left f1 (k := keyS nB) (G := ⟨other, 0, true⟩) hl1 (by
    show 0 + other.length ≤ 65536 + 0
    omega)
  rw [l1] at l2
  simp only [List.length_nil] at l2
  have hb2 : lookL (withFile { DL0 65536 with files := putL (DL0 65536).files (keyS nB) ⟨[], 0, true⟩ } (keyS nB) ⟨other, 0, true⟩).files (keyS nB) = some ⟨other, 0, true⟩ := with_same (D := { DL0 65536 with files := putL (DL0 65536).files (keyS nB) ⟨[], 0, true⟩ }) hl1
  generalize hD1 : ({ DL0 65536 with files := putL (DL0 65536).files (keyS nB) ⟨[], 0, true⟩ } : DiskD) = D1 at *
  have hna : lookL (withFile D1 (keyS nB) ⟨other, 0, true⟩).files (keyS nA) = none := by
    rw [with_other (fun e => ab_ne (keyS_inj e).symm), ← hD1]
    rfl
  have hlen : (withFile D1 (keyS nB) ⟨other, 0, true⟩).files.length < 16 := by
    show (setL _ _ _).length < 16
    rw [set_length, ← hD1]; decide
  have hr2 : (withFile D1 (keyS nB) ⟨other, 0, true⟩).room = 65536 := by rw [← hD1]; rfl
  have hf2 : (withFile D1 (keyS nB) ⟨other, 0, true⟩).fused = false := by rw [← hD1]; rfl
  generalize withFile D1 (keyS nB) ⟨other, 0, true⟩ = D2 at *
  obtain ⟨D3, h1, h2, h3, h4, -⟩ := open_absent (D := D2) (n := nA) hf2 mayA hna hlen
  obtain ⟨f3, l3⟩ := h4 f2
  have w3 : Well D3 ⟨nA, 0, 0, 0, false⟩ [] 0 false := ⟨h3.fused.trans hf2, h2, rfl, rfl, rfl⟩
  by_cases hl : l = []
  · subst hl
    refine ⟨D1, D2, D3, D3, ⟨nA, 0, 0, 0, false⟩, c1, c2, h1, ?_, ⟨w3.fused, h3.room.trans hr2, ⟨0, false, h2, Nat.le_refl _⟩, (h3.other nB ab_ne).trans hb2⟩, hr2⟩
    unfold putRs
    rw [if_neg (by decide), if_pos rfl]
  · have hw := puts_weight l
    obtain ⟨D4, p4, w4, e4, -⟩ := put_well w3 l hl (by omega)
    refine ⟨D1, D2, D3, D4, _, c1, c2, h1, p4, ⟨w4.fused, e4.room.trans (h3.room.trans hr2), ⟨0, false, w4.file, Nat.zero_le _⟩, ?_⟩, hr2⟩
    exact (e4.other nB ab_ne).trans ((h3.other nB ab_ne).trans hb2)
theorem again_open {l : List Key} {other : Key} {D : DiskD} (h : Ag l other D) (hr : ∀ r ∈ l, r.length ≤ 1048576) : ∃ D', openL D nA = (D', some (⟨nA, (puts l).length, l.length, l.length, false⟩, l), 0) ∧ Ag l other D' ∧ looseD D' nA = 0 := by
  obtain ⟨s, f, hl, hs⟩ := h.file
  obtain ⟨D', f', h1, h2, -, h3, -⟩ := open_good h.fused hl hs hr
  refine ⟨D', h1, ⟨h3.fused.trans h.fused, h3.room.trans h.room, ⟨_, f', h2, Nat.le_refl _⟩, (h3.other nB ab_ne).trans h.b⟩, ?_⟩
  unfold looseD findD
  rw [h2]
  exact Nat.sub_self _
theorem ag_read {l : List Key} {other : Key} {D : DiskD} (h : Ag l other D) : readD D nB = (other, 0) ∧ looseD D nB = other.length := by
  unfold readD looseD findD
  rw [h.b]
  exact ⟨rfl, rfl⟩
set_option maxRecDepth 100000 in
set_option maxHeartbeats 8000000 in
theorem LogAgain_calls (w : World) (p : Option Addr) (cap : Nat) (l : List Key) (other : Key) (hl : l.length ≤ maxLen) (hr : RowArg w p (strs l)) (hz : ∀ t ∈ l, t.length ≤ 140737488351232) (ho : other.length ≤ 140737488351232) (hT : Crc.TabOk w) :
    Calls Tryd.prog 4 #[.slice p l.length cap, .string (B other)] w fun e w' => e = .returned (.bool true) ∧ Below w.heap.size w w' := by
  have HR := Lib.hid hr
  have HZ := Lib.hid hz
  have HT := Lib.hid hT
  unfold maxLen at hl
  clear hr hz hT
  go_enter Tryd.func4, Tryd.ntmps4
  go_wp2_with fail
  go_loopw [5, 6] (fun v u wr => ∃ i : Nat, v = .int .i64 ((other.length + weight (l.take i) : Nat) : Int) ∧ u = .int .i64 (i : Int) ∧ i ≤ l.length ∧ i ≤ 100 ∧ weight (l.take i) ≤ i * 140737488351233 ∧ w = wr) (fun _ u _ => l.length - (intOf u).toNat)
  case atStart => exact ⟨0, by simp [weight], rfl, Nat.zero_le _, by omega, by simp [weight], rfl⟩
  case round =>
    obtain ⟨i, rfl, rfl, hi, hi5, hsum, rfl⟩ := hrel
    by_cases hin : i < l.length ∧ i < 100
    · obtain ⟨b, o, rfl, _, hc⟩ := HR.out i (by rw [strs_length]; exact hin.1)
      rw [strs_at _ _ hin.1] at hc
      have HS := Lib.hid (weight_succ l i hin.1)
      have hzi := HZ.out _ (List.getElem_mem hin.1)
      have HI := Lib.hid hin
      have t1 : (i : Int) < (l.length : Int) := by omega
      have t2 : (i : Int) < 100 := by omega
      have t3 : 0 ≤ (i : Int) := by omega
      generalize l[i] = x at *
      clear hin
      generalize hhn : weight (l.take i) = hn at *
      have s1 : hn ≤ 14073748835123300 := Nat.le_trans hsum (by omega)
      have HSUM := Lib.hid hsum
      clear hsum hhn
      go_wp2_with fail
      go_roundw
      case rel =>
        first
          | exact ⟨i + 1, by rw [HS.out]; go_num, by go_num, HI.out.1, HI.out.2, by rw [HS.out]; have := HSUM.out; omega, by first | rfl | trivial⟩
          | ((repeat apply Exists.intro); exact ⟨⟨i + 1, by rw [HS.out]; go_num, by go_num, HI.out.1, HI.out.2, by rw [HS.out]; have := HSUM.out; omega, by first | rfl | trivial⟩, rfl⟩)
      case measure => have := HI.out; simp [intOf]; omega
    · have hW := weight_take_le l i
      by_cases hv : 60 < l.length ∨ (l.length ≤ 60 ∧ 4096 < other.length + weight (l.take i))
      · have s1 : weight (l.take i) ≤ 14073748835123300 := Nat.le_trans hsum (by omega)
        generalize weight (l.take i) = hn at *
        have hguard : ¬ (i : Int) < (l.length : Int) ∨ ((i : Int) < (l.length : Int) ∧ ¬ (i : Int) < 100) := by omega
        have hv2 : (60 : Int) < (l.length : Int) ∨ (¬ (60 : Int) < (l.length : Int) ∧ (4096 : Int) < ((other.length + hn : Nat) : Int)) := by omega
        clear hin hv hsum hW
        rcases hguard with hg1 | ⟨hg1, hg2⟩ <;> rcases hv2 with hv3 | ⟨hv3, hv4⟩
        all_goals first
          | (exfalso; omega)
          | (go_wp2_with fail
             with_reducible refine (LWorks_f _ HT.out).mono ?_
             rintro e w2 ⟨rfl, hb2⟩
             have HB2 := Lib.hid hb2
             clear hb2
             go_wp2
             go_ret
             exact ⟨rfl, HB2.out⟩)
      · have hll : l.length ≤ 60 := by omega
        obtain rfl : i = l.length := by omega
        rw [List.take_length] at hv hsum hW ⊢
        have hwt : other.length + weight l ≤ 4096 := by omega
        have HWT := Lib.hid hwt
        have hv3 : ¬ (60 : Int) < (l.length : Int) := by omega
        have hv4 : ¬ (4096 : Int) < ((other.length + weight l : Nat) : Int) := by omega
        have t1 : ¬ (l.length : Int) < (l.length : Int) := by omega
        have HSH := Lib.hid (show ∀ r ∈ l, r.length ≤ 1048576 from fun r hr => by have := mem_weight hr; omega)
        obtain ⟨D1, D2, D3, D4, L4, p1, p2, p3, p4, hag, hrm⟩ := again_start l other hwt
        have P2 := Lib.hid p2
        have P3 := Lib.hid p3
        have P4 := Lib.hid p4
        have HAG := Lib.hid hag
        have HRM := Lib.hid hrm
        have HPL := Lib.hid (show (puts l).length ≤ 1099511627776 by have := puts_weight l; omega)
        have HN := Lib.hid (show Calls Tryd.prog 15 #[.int .i64 65536] w fun e w' => ∃ b, e = .returned (.tuple #[.pointer (some ⟨b, 0, none⟩), .int .i64 0]) ∧ DW w w' b (DL0 65536) from DW.new (r := 65536) (by decide) (Below.refl w.heap.size w))
        clear hin hv hsum hW hwt hag hrm p2 p3 p4
        generalize weight l = wl at *
        go_wp2_with fail
        with_reducible refine HN.out.mono ?_
        rintro e w1 ⟨b, rfl, h1⟩
        obtain ⟨T1, h1⟩ := dx_of h1
        have HC := Lib.hid (show Calls Tryd.prog 16 #[.pointer (some ⟨b, 0, none⟩), .string ⟨#[98]⟩] w1 fun e w' => e = .returned (.int .i64 0) ∧ DX w w' b D1 (More T1 w1 w') ∧ Kept T1 w1 w' from by
          have h := h1.op (Create_f h1.dk nB (by decide))
          rw [p1] at h
          exact h)
        clear h1 HN p1
        go_wp2_with fail
        with_reducible refine HC.out.mono ?_
        rintro e w2 ⟨rfl, h2, -⟩
        generalize More T1 w1 w2 = T2 at h2
        have HA := Lib.hid (show Calls Tryd.prog 17 #[.pointer (some ⟨b, 0, none⟩), .string ⟨#[98]⟩, .string (B other)] w2 fun e w' => e = .returned (.int .i64 0) ∧ DX w w' b D2 (More T2 w2 w') ∧ Kept T2 w2 w' from by
          have h := h2.op (Append_f h2.dk nB other (by decide) (by unfold maxLen; omega))
          rw [P2.out] at h
          exact h)
        clear h2 HC P2
        go_wp2_with fail
        with_reducible refine HA.out.mono ?_
        rintro e w3 ⟨rfl, h3, -⟩
        generalize More T2 w2 w3 = T3 at h3
        have HO := Lib.hid (show Calls Tryd.prog 9 #[.pointer (some ⟨b, 0, none⟩), .string ⟨#[97]⟩] w3 _ from LOpen_ok h3 HT.out nA (by decide) (by rw [HRM.out]; decide) P3.out)
        clear h3 HA P3
        go_wp2_with fail
        with_reducible refine HO.out.mono ?_
        rintro e w4 ⟨lb, pr, cr, T4, rfl, h4, -, -, -, -⟩
        obtain ⟨pa, ca, w5, hra, hoa, hba⟩ := append_strs w4 p cap l (RowArg.below HR.out h4.dx.below) (by omega)
        have h5 := h4.later hba
        have HRA := Lib.hid hra
        have HP := Lib.hid (show Calls Tryd.prog 10 #[.pointer (some ⟨lb, 0, none⟩), .slice pa l.length ca] w5 (LPost w w5 b lb T4 (D4, L4, 0)) from by
          obtain ⟨p', c', e1, hrow, -, -⟩ := RowArg.of_own hoa
          injection e1 with e1 e2 e3
          subst e1 e3
          have h := LAppend_f h5 HT.out pa ca l ⟨hrow, HSH.out, HPL.out, by decide, by decide, by decide⟩
          rw [P4.out] at h
          exact h)
        clear h4 HO hra hoa hba h5 P4
        go_wp2_with (first | (at_builtin; refine wpList_append_run_g (by rfl) _ _ _ _ rfl rfl rfl HRA.out ?_))
        with_reducible refine HP.out.mono ?_
        rintro e w6 ⟨rfl, h6, -⟩
        have H6 := Lib.hid h6.dx
        clear h6 HP HRA
        go_wp2_with fail
        go_loopw [12] (fun u wr => ∃ (k : Nat) (D : DiskD) (T : Nat → Prop), u = .int .i64 (k : Int) ∧ k ≤ 3 ∧ DX w wr b D T ∧ Ag l other D) (fun u _ => 3 - (intOf u).toNat)
        case atStart => exact ⟨0, _, _, rfl, by omega, H6.out, HAG.out⟩
        case round =>
          obtain ⟨k, D, T, rfl, hk, hd, hag⟩ := hrel
          by_cases hk3 : k < 3
          · have t2 : (k : Int) < 3 := by omega
            obtain ⟨D', q1, hag2, hlo⟩ := again_open hag HSH.out
            have HAG2 := Lib.hid hag2
            have HO := Lib.hid (show Calls Tryd.prog 9 #[.pointer (some ⟨b, 0, none⟩), .string ⟨#[97]⟩] wr _ from LOpen_ok hd HT.out nA (by decide) (by rw [hag.room]; decide) q1)
            have HLO := Lib.hid hlo
            clear hd hag hag2 q1 hlo
            go_wp2_with fail
            with_reducible refine HO.out.mono ?_
            rintro e w7 ⟨lb2, pr2, cr2, T7, rfl, h7, -, -, -, hrow⟩
            have HSM := Lib.hid (Same_f pr2 p l l cr2 cap w7 hl hl (fun j hj => by
              have hj' : j < l.length := by rw [strs_length] at hj; exact hj
              obtain ⟨g, h1, _, h3, _, _, h5⟩ := hrow j hj'
              exact ⟨g, 0, h1, h3, by rw [Nat.zero_add, strs_at _ _ hj']; exact h5⟩) (RowArg.below HR.out h7.dx.below))
            rw [decide_eq_true rfl] at HSM
            have H7 := Lib.hid h7
            clear h7 hrow HO
            go_wp2_with fail
            with_reducible refine HSM.out.mono ?_
            rintro e w8 ⟨rfl, n8, rfl⟩
            have H8 := Lib.hid (H7.out.later ((Below.refl _ w7).drewN n8))
            have HSU := Lib.hid (LSure_f H8.out.log)
            have HCO := Lib.hid (LCount_f H8.out.log)
            have HLS := Lib.hid (show Calls Tryd.prog 19 #[.pointer (some ⟨b, 0, none⟩), .string ⟨#[97]⟩] (w7.drewN n8) fun e w' => e = .returned (.int .i64 0) ∧ ∃ m, w' = (w7.drewN n8).drewN m from by
              have h := rLoose H8.out.dx.dw nA (by decide)
              rw [HLO.out] at h
              exact h)
            clear HSM H7
            generalize w7.drewN n8 = w8 at *
            go_wp2_with fail
            with_reducible refine HSU.out.mono ?_
            rintro e w9 ⟨rfl, rfl⟩
            go_wp2_with fail
            with_reducible refine HCO.out.mono ?_
            rintro e w9 ⟨rfl, rfl⟩
            go_wp2_with fail
            with_reducible refine HLS.out.mono ?_
            rintro e w9 ⟨rfl, n9, rfl⟩
            have H9 := Lib.hid (H8.out.later ((Below.refl _ w8).drewN n9)).dx
            clear HSU HCO HLS H8
            generalize w8.drewN n9 = w9 at *
            go_wp2_with fail
            go_roundw
            case rel =>
              first
                | exact ⟨k + 1, D', T7, by go_num, hk3, H9.out, HAG2.out⟩
                | ((repeat apply Exists.intro); exact ⟨⟨k + 1, D', T7, by go_num, hk3, H9.out, HAG2.out⟩, rfl⟩)
            case measure => simp [intOf]; omega
          · obtain rfl : k = 3 := by omega
            have HRD := Lib.hid (show Calls Tryd.prog 20 #[.pointer (some ⟨b, 0, none⟩), .string ⟨#[98]⟩] wr fun e w' => e = .returned (.tuple #[.string (B other), .int .i64 0]) ∧ wr = w' from by
              have h := kRead hd.dw nB (by decide)
              rw [(ag_read hag).1] at h
              exact h)
            have HLS := Lib.hid (show Calls Tryd.prog 19 #[.pointer (some ⟨b, 0, none⟩), .string ⟨#[98]⟩] wr fun e w' => e = .returned (.int .i64 (other.length : Nat)) ∧ ∃ m, w' = wr.drewN m from by
              have h := rLoose hd.dw nB (by decide)
              rw [(ag_read hag).2] at h
              exact h)
            have HB := Lib.hid hd.below
            clear hd hag
            go_wp2_with fail
            with_reducible refine HRD.out.mono ?_
            rintro e w7 ⟨rfl, rfl⟩
            go_wp2_with fail
            with_reducible refine HLS.out.mono ?_
            rintro e w7 ⟨rfl, n7, rfl⟩
            have HB7 := Lib.hid (HB.out.drewN n7)
            generalize wr.drewN n7 = w7 at *
            go_wp2_with fail
            with_reducible refine (LWorks_f _ (HT.out.next HB7.out)).mono ?_
            rintro e w8 ⟨rfl, hb8⟩
            have HB8 := Lib.hid (HB7.out.trans (hb8.mono HB7.out.size))
            clear hb8
            go_wp2
            go_ret
            exact ⟨rfl, HB8.out⟩
end Go.Proofs.YtpiaplgbpjgjiaaDoor.Lg
