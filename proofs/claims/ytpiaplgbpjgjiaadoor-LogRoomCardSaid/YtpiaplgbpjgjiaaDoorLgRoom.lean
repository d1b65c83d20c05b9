/-
  Logs (layer 8): the statement LogRoom, walked. Conditions: the texts lie in memory and are within the reach; the sum's table is laid; the room is of its kind.
-/
import Derived.Test.YtpiaplgbpjgjiaaDoorLgRow
import Derived.Deep.RegionHeld3
open Go Go.RowKit
namespace Go.Proofs.YtpiaplgbpjgjiaaDoor.Lg
open Base Mp Dk Frame

/-- What holds between two records. -/
structure Rm (r : Nat) (D : DiskD) (L : LogD) (rs : List Key) : Prop where
  well : Well D L rs 0 false
  fine : Fine D
  room : D.room = r
  name : L.name = nA
  short : ∀ t ∈ rs, t.length ≤ 1048576
  small : (puts rs).length ≤ r
theorem room_start (r : Nat) (h : r < 500) : ∃ D1, openL (DL0 r) nA = (D1, some (⟨nA, 0, 0, 0, false⟩, []), 0) ∧ Rm r D1 ⟨nA, 0, 0, 0, false⟩ [] := by
  obtain ⟨D1, h1, h2, h3, h4, -⟩ := open_absent (D := DL0 r) (n := nA) rfl mayA rfl (by show 0 < 16; decide)
  exact ⟨D1, h1, ⟨h3.fused, h2, rfl, rfl, rfl⟩, (h4 (fine0 (by omega))).1, h3.room, rfl, fun t ht => by simp at ht, by simp [puts]⟩
theorem rm_left {r : Nat} {D : DiskD} {L : LogD} {rs : List Key} (h : Rm r D L rs) : left D ≤ r := by unfold left; rw [h.room]; omega
theorem room_fits {r : Nat} {D : DiskD} {L : LogD} {rs : List Key} (h : Rm r D L rs) (x : Key) (hx : 8 + x.length ≤ left D) (hr : r < 500) : ∃ D' L', putRs D L [x] = (D', L', 0) ∧ Rm r D' L' (rs ++ [x]) := by
  have hp : (puts [x]).length = 8 + x.length := by rw [puts_one, put_length]
  obtain ⟨D', p, w2, e, g, -⟩ := put_well h.well [x] (by simp) (by rw [hp]; exact hx)
  have hle := rm_left h
  obtain ⟨f2, l2⟩ := g h.fine (Nat.zero_le _)
  refine ⟨D', _, p, w2, f2, e.room.trans h.room, h.name, fun t ht => ?_, ?_⟩
  · rcases List.mem_append.1 ht with ht | ht
    · exact h.short t ht
    · rw [List.mem_singleton.1 ht]; omega
  · have hm := total_mem (mem_of_look w2.file)
    have hf := f2.fits
    rw [e.room, h.room] at hf
    exact Nat.le_trans hm hf
theorem room_not {r : Nat} {D : DiskD} {L : LogD} {rs : List Key} (h : Rm r D L rs) (x : Key) (hx : ¬ 8 + x.length ≤ left D) : putRs D L [x] = (D, L, 6) :=
  put_nofit h.well [x] (by simp) (by rw [puts_one, put_length]; omega)
theorem room_read {r : Nat} {D : DiskD} {L : LogD} {rs : List Key} (h : Rm r D L rs) : readD D nA = (puts rs, 0) := by
  have := h.well.file
  rw [h.name] at this
  unfold readD findD
  rw [this]
theorem room_open {r : Nat} {D : DiskD} {L : LogD} {rs : List Key} (h : Rm r D L rs) : ∃ D' L', openL D nA = (D', some (L', rs), 0) := by
  have := h.well.file
  rw [h.name] at this
  obtain ⟨D', f', h1, -⟩ := open_good h.well.fused this (Nat.zero_le _) h.short
  exact ⟨D', _, h1⟩
set_option maxRecDepth 100000 in
set_option maxHeartbeats 8000000 in
theorem LogRoom_calls (w : World) (room : Nat) (p : Option Addr) (cap : Nat) (l : List Key) (hrm : room < 65536) (hl : l.length ≤ maxLen) (hr : RowArg w p (strs l)) (hz : ∀ t ∈ l, t.length ≤ 140737488351232) (hT : Crc.TabOk w) :
    Calls Tryd.prog 5 #[.int .u16 (room : Int), .slice p l.length cap] w fun e w' => e = .returned (.bool true) ∧ Below w.heap.size w w' := by
  have HR := Lib.hid hr
  have HZ := Lib.hid hz
  have HT := Lib.hid hT
  unfold maxLen at hl
  clear hr hz hT
  go_enter Tryd.func5, Tryd.ntmps5
  go_wp2_with fail
  go_loopw [5, 6] (fun v u wr => ∃ i : Nat, v = .int .i64 ((weight (l.take i) : Nat) : Int) ∧ u = .int .i64 (i : Int) ∧ i ≤ l.length ∧ i ≤ 100 ∧ weight (l.take i) ≤ i * 140737488351233 ∧ w = wr) (fun _ u _ => l.length - (intOf u).toNat)
  case atStart => exact ⟨0, by simp [weight], rfl, Nat.zero_le _, by omega, by simp [weight], rfl⟩
  case round =>
    obtain ⟨i, rfl, rfl, hi, hi5, hsum, rfl⟩ := hrel
    by_cases hin : i < l.length ∧ i < 100
    · obtain ⟨b, o, rfl, _, hc⟩ := HR.out i (by rw [strs_length]; exact hin.1)
      rw [strs_at _ _ hin.1] at hc
      have HS := Lib.hid (weight_succ l i hin.1)
      have hzi := HZ.out _ (List.getElem_mem hin.1)
      have HI := Lib.hid hin
      have t1 : (i : Int) < (l.length : Int) := by omega
      have t2 : (i : Int) < 100 := by omega
      have t3 : 0 ≤ (i : Int) := by omega
      generalize l[i] = x at *
      clear hin
      generalize hhn : weight (l.take i) = hn at *
      have s1 : hn ≤ 14073748835123300 := Nat.le_trans hsum (by omega)
      have HSUM := Lib.hid hsum
      clear hsum hhn
      go_wp2_with fail
      go_roundw
      case rel =>
        first
          | exact ⟨i + 1, by rw [HS.out]; go_num, by go_num, HI.out.1, HI.out.2, by rw [HS.out]; have := HSUM.out; omega, by first | rfl | trivial⟩
          | ((repeat apply Exists.intro); exact ⟨⟨i + 1, by rw [HS.out]; go_num, by go_num, HI.out.1, HI.out.2, by rw [HS.out]; have := HSUM.out; omega, by first | rfl | trivial⟩, rfl⟩)
      case measure => have := HI.out; simp [intOf]; omega
    · have hW := weight_take_le l i
      by_cases hv : 60 < l.length ∨ (l.length ≤ 60 ∧ 4096 < weight (l.take i))
      · have s1 : weight (l.take i) ≤ 14073748835123300 := Nat.le_trans hsum (by omega)
        generalize weight (l.take i) = hn at *
        have hguard : ¬ (i : Int) < (l.length : Int) ∨ ((i : Int) < (l.length : Int) ∧ ¬ (i : Int) < 100) := by omega
        have hv2 : (60 : Int) < (l.length : Int) ∨ (¬ (60 : Int) < (l.length : Int) ∧ (4096 : Int) < ((hn : Nat) : Int)) := by omega
        clear hin hv hsum hW
        rcases hguard with hg1 | ⟨hg1, hg2⟩ <;> rcases hv2 with hv3 | ⟨hv3, hv4⟩
        all_goals first
          | (exfalso; omega)
          | (go_wp2_with fail
             with_reducible refine (LWorks_f _ HT.out).mono ?_
             rintro e w2 ⟨rfl, hb2⟩
             have HB2 := Lib.hid hb2
             clear hb2
             go_wp2
             go_ret
             exact ⟨rfl, HB2.out⟩)
      · have hll : l.length ≤ 60 := by omega
        obtain rfl : i = l.length := by omega
        rw [List.take_length] at hv hsum hW ⊢
        have hwt : weight l ≤ 4096 := by omega
        have hv3 : ¬ (60 : Int) < (l.length : Int) := by omega
        have hv4 : ¬ (4096 : Int) < ((weight l : Nat) : Int) := by omega
        have t1 : ¬ (l.length : Int) < (l.length : Int) := by omega
        have HSH := Lib.hid (show ∀ r ∈ l, r.length ≤ 4096 from fun r hr => by have := mem_weight hr; omega)
        obtain ⟨r, hrr⟩ : ∃ r, r = room % 500 := ⟨_, rfl⟩
        have hr5 : r < 500 := by omega
        have m1 : ((room : Int).tmod 500) = (r : Int) := by rw [Int.tmod_eq_emod_of_nonneg (by omega)]; omega
        have m2 : IntKind.i64.wrap (r : Int) = (r : Int) := by rw [IntKind.wrap_i64]; omega
        obtain ⟨D1, p1, hs1⟩ := room_start r hr5
        have HS1 := Lib.hid hs1
        have P1 := Lib.hid p1
        have HN := Lib.hid (show Calls Tryd.prog 15 #[.int .i64 (r : Int)] w fun e w' => ∃ b, e = .returned (.tuple #[.pointer (some ⟨b, 0, none⟩), .int .i64 0]) ∧ DW w w' b (DL0 r) from DW.new (r := r) (by omega) (Below.refl w.heap.size w))
        have HRR := Lib.hid hrr
        clear hin hv hsum hW hwt hs1 p1 hrr
        generalize weight l = wl at *
        go_wp2_with fail
        with_reducible refine HN.out.mono ?_
        rintro e w1 ⟨b, rfl, h1⟩
        obtain ⟨T1, h1⟩ := dx_of h1
        have HO := Lib.hid (show Calls Tryd.prog 9 #[.pointer (some ⟨b, 0, none⟩), .string ⟨#[97]⟩] w1 _ from LOpen_ok h1 HT.out nA (by decide) (by show r ≤ 1048576; omega) P1.out)
        clear h1 HN P1
        go_wp2_with fail
        with_reducible refine HO.out.mono ?_
        rintro e w2 ⟨lb, pr, cr, T2, rfl, h2, -, -, -, -⟩
        have H2 := Lib.hid h2
        clear h2 HO m1 m2
        go_wp2_with fail
        go_loopw [12, 13] (fun v u wr => ∃ (i : Nat) (D : DiskD) (L : LogD) (rs : List Key) (T : Nat → Prop), u = .int .i64 (i : Int) ∧ i ≤ l.length ∧ LX w wr b lb D L T ∧ Rm r D L rs ∧ PutRow w wr v rs T lb ∧ rs.length ≤ i) (fun _ u _ => l.length - (intOf u).toNat)
        case atStart => exact ⟨0, _, _, [], _, rfl, Nat.zero_le _, H2.out, HS1.out, PutRow.none _ _ _ _, Nat.zero_le _⟩
        case round =>
          obtain ⟨i, D, L, rs, T, rfl, hi, hx, hr, hp, hri⟩ := hrel
          have HX := Lib.hid hx
          have HRM := Lib.hid hr
          have HP := Lib.hid hp
          by_cases hil : i < l.length
          · obtain ⟨bs, os, rfl, hbs, hc⟩ := HR.out i (by rw [strs_length]; exact hil)
            rw [strs_at _ _ hil] at hc
            have t2 : (i : Int) < (l.length : Int) := by omega
            have t3 : 0 ≤ (i : Int) := by omega
            have hcw : wr.cell? ⟨bs, os + i, none⟩ = some (.string (B l[i])) := (hx.dx.below.cell (p := ⟨bs, os + i, none⟩) hbs).trans hc
            have hsh := HSH.out _ (List.getElem_mem hil)
            have hbw : bs < wr.heap.size := Nat.lt_of_lt_of_le hbs hx.dx.below.size
            have hle := rm_left hr
            have HCW := Lib.hid hcw
            have HRO := Lib.hid (Room_f (hx.later ((Below.refl wr.heap.size wr).drew)).dx.dk)
            clear hx hr hp hc
            generalize l[i] = x at *
            generalize hlf : left D = lf at *
            have HLF := Lib.hid hlf
            clear hlf
            have hwr : IntKind.i64.wrap (8 + (x.length : Int)) = 8 + (x.length : Int) := by rw [IntKind.wrap_i64]; omega
            by_cases hfit : 8 + x.length ≤ lf
            · have hfi : (8 : Int) + (x.length : Int) ≤ (lf : Int) := by omega
              have hfd : decide ((8 : Int) + (x.length : Int) ≤ (lf : Int)) = true := decide_eq_true hfi
              obtain ⟨D', L', q1, hr2⟩ := room_fits HRM.out x (by rw [HLF.out]; exact hfit) hr5
              have HRN := Lib.hid hr2
              have HQ1 := Lib.hid q1
              clear q1 hr2
              go_wp2_with fail
              go_region_held3 (fun W => W.cell? ⟨bs, os + i, none⟩ = some (.string (B x))) (first | go_keep | exact (hb3.cell (p := ⟨bs, os + i, none⟩) hbw).trans hcw) ((go_at_call 21; with_reducible refine HRO.out.mono ?_; rintro e w3 ⟨rfl, hb3⟩))
              have hb33 : Below wr.heap.size wr w3 := ⟨hb3.os, hb3.tape, hb3.output, hb3.size, hb3.block⟩
              have hcw3 : w3.cell? ⟨bs, os + i, none⟩ = some (.string (B x)) := (hb33.cell (p := ⟨bs, os + i, none⟩) hbw).trans hcw
              have HX3 := Lib.hid ((HX.out.later hb33).later ((Below.refl w3.heap.size w3).alloc (Nat.le_refl _) (.cells (strs [x]).toArray 9)))
              have HP3 := Lib.hid ((HP.out.later hb33).later ((Below.refl w3.heap.size w3).alloc (Nat.le_refl _) (.cells (strs [x]).toArray 9)))
              have HA := Lib.hid (show Calls Tryd.prog 10 #[.pointer (some ⟨lb, 0, none⟩), .slice (some ⟨w3.heap.size, 0, none⟩) 1 1] (w3.alloc (.cells #[.string (B x)] 9)) (LPost w (w3.alloc (.cells #[.string (B x)] 9)) b lb T (D', L', 0)) from by
                have h := LAppend_f HX3.out HT.out (some ⟨w3.heap.size, 0, none⟩) 1 [x] ⟨row_made w3 _, by
                  intro t ht
                  rw [List.mem_singleton.1 ht]; omega, by rw [puts_one, put_length]; omega, by rw [HRM.out.well.size]; have := HRM.out.small; omega, by rw [HRM.out.well.count]; omega, by rw [HRM.out.name]; decide⟩
                rw [HQ1.out] at h
                exact h)
              clear hb3 hb33 hcw HRO
              go_wp2_with fail
              with_reducible refine HA.out.mono ?_
              rintro e w4 ⟨rfl, h4, k4⟩
              have h4b := HP3.out.kept k4
              simp only at h4
              have hcw4 : w4.cell? ⟨bs, os + i, none⟩ = some (.string (B x)) := (h4.dx.below.cell (p := ⟨bs, os + i, none⟩) hbs).trans (((HX.out.dx.below.cell (p := ⟨bs, os + i, none⟩) hbs).symm.trans HCW.out))
              obtain ⟨v5, w5, hra, hx5, hp5, -⟩ := append_row h4 h4b x (by omega)
              have HXN := Lib.hid hx5
              have HPN := Lib.hid hp5
              have HLN := Lib.hid (show (rs ++ [x]).length ≤ i + 1 by rw [List.length_append]; simp; omega)
              obtain ⟨pv, cv, rfl, -⟩ := h4b.arg
              have hl5 := HPN.out.own
              obtain ⟨p5, c5, rfl, -⟩ := own_take hl5 (Nat.le_refl _)
              have HRA := Lib.hid hra
              have hn1 : (rs ++ [x]).length = rs.length + 1 := by simp
              rw [hn1] at HPN HRA
              clear hn1
              clear h4 k4 h4b hra hx5 hp5 HA hl5 hcw3
              go_wp2_with (at_builtin; refine wpList_append_run2 rfl _ _ _ _ rfl rfl rfl HRA.out ?_)
              have HRD := Lib.hid (show Calls Tryd.prog 20 #[.pointer (some ⟨b, 0, none⟩), .string ⟨#[97]⟩] w5 fun e w' => e = .returned (.tuple #[.string (B (puts (rs ++ [x]))), .int .i64 0]) ∧ w5 = w' from by
                have h := kRead HXN.out.dx.dw nA (by decide)
                rw [room_read HRN.out] at h
                exact h)
              have HCO := Lib.hid (LCount_f HXN.out.log)
              have HLE := Lib.hid (LLen_f HXN.out.log)
              rw [HRN.out.well.count] at HCO
              rw [HRN.out.well.size] at HLE
              go_wp2_with fail
              with_reducible refine HRD.out.mono ?_
              rintro e w6 ⟨rfl, rfl⟩
              go_wp2_with fail
              with_reducible refine HCO.out.mono ?_
              rintro e w6 ⟨rfl, rfl⟩
              go_wp2_with fail
              with_reducible refine HLE.out.mono ?_
              rintro e w6 ⟨rfl, rfl⟩
              clear HRD HCO HLE
              go_wp2_with fail
              go_roundw
              case rel =>
                first
                  | exact ⟨i + 1, _, _, _, _, by go_num, hil, HXN.out, HRN.out, HPN.out, HLN.out⟩
                  | ((repeat apply Exists.intro); exact ⟨⟨i + 1, _, _, _, _, by go_num, hil, HXN.out, HRN.out, HPN.out, HLN.out⟩, rfl⟩)
              case measure => simp [intOf]; omega
            · have hfi : ¬ (8 : Int) + (x.length : Int) ≤ (lf : Int) := by omega
              have hfd : decide ((8 : Int) + (x.length : Int) ≤ (lf : Int)) = false := decide_eq_false hfi
              have HQ1 := Lib.hid (room_not HRM.out x (by rw [HLF.out]; exact hfit))
              have HRN := Lib.hid HRM.out
              have HLN := Lib.hid (show rs.length ≤ i + 1 by omega)
              go_wp2_with fail
              go_region_held3 (fun W => W.cell? ⟨bs, os + i, none⟩ = some (.string (B x))) (first | go_keep | exact (hb3.cell (p := ⟨bs, os + i, none⟩) hbw).trans hcw) ((go_at_call 21; with_reducible refine HRO.out.mono ?_; rintro e w3 ⟨rfl, hb3⟩))
              have hb33 : Below wr.heap.size wr w3 := ⟨hb3.os, hb3.tape, hb3.output, hb3.size, hb3.block⟩
              have hcw3 : w3.cell? ⟨bs, os + i, none⟩ = some (.string (B x)) := (hb33.cell (p := ⟨bs, os + i, none⟩) hbw).trans hcw
              have HX3 := Lib.hid ((HX.out.later hb33).later ((Below.refl w3.heap.size w3).alloc (Nat.le_refl _) (.cells (strs [x]).toArray 9)))
              have HP3 := Lib.hid ((HP.out.later hb33).later ((Below.refl w3.heap.size w3).alloc (Nat.le_refl _) (.cells (strs [x]).toArray 9)))
              have HA := Lib.hid (show Calls Tryd.prog 10 #[.pointer (some ⟨lb, 0, none⟩), .slice (some ⟨w3.heap.size, 0, none⟩) 1 1] (w3.alloc (.cells #[.string (B x)] 9)) (LPost w (w3.alloc (.cells #[.string (B x)] 9)) b lb T (D, L, 6)) from by
                have h := LAppend_f HX3.out HT.out (some ⟨w3.heap.size, 0, none⟩) 1 [x] ⟨row_made w3 _, by
                  intro t ht
                  rw [List.mem_singleton.1 ht]; omega, by rw [puts_one, put_length]; omega, by rw [HRM.out.well.size]; have := HRM.out.small; omega, by rw [HRM.out.well.count]; omega, by rw [HRM.out.name]; decide⟩
                rw [HQ1.out] at h
                exact h)
              clear hb3 hb33 hcw HRO
              go_wp2_with fail
              with_reducible refine HA.out.mono ?_
              rintro e w4 ⟨rfl, h4, k4⟩
              have HXN := Lib.hid (show LX w w4 b lb D L _ from h4)
              have HPN := Lib.hid (HP3.out.kept k4)
              obtain ⟨pv, cv, rfl, -⟩ := HPN.out.arg
              clear h4 k4 HA hcw3
              have HRD := Lib.hid (show Calls Tryd.prog 20 #[.pointer (some ⟨b, 0, none⟩), .string ⟨#[97]⟩] w4 fun e w' => e = .returned (.tuple #[.string (B (puts rs)), .int .i64 0]) ∧ w4 = w' from by
                have h := kRead HXN.out.dx.dw nA (by decide)
                rw [room_read HRN.out] at h
                exact h)
              have HCO := Lib.hid (LCount_f HXN.out.log)
              have HLE := Lib.hid (LLen_f HXN.out.log)
              rw [HRN.out.well.count] at HCO
              rw [HRN.out.well.size] at HLE
              go_wp2_with fail
              with_reducible refine HRD.out.mono ?_
              rintro e w6 ⟨rfl, rfl⟩
              go_wp2_with fail
              with_reducible refine HCO.out.mono ?_
              rintro e w6 ⟨rfl, rfl⟩
              go_wp2_with fail
              with_reducible refine HLE.out.mono ?_
              rintro e w6 ⟨rfl, rfl⟩
              clear HRD HCO HLE
              go_wp2_with fail
              go_roundw
              case rel =>
                first
                  | exact ⟨i + 1, _, _, _, _, by go_num, hil, HXN.out, HRN.out, HPN.out, HLN.out⟩
                  | ((repeat apply Exists.intro); exact ⟨⟨i + 1, _, _, _, _, by go_num, hil, HXN.out, HRN.out, HPN.out, HLN.out⟩, rfl⟩)
              case measure => simp [intOf]; omega
          · obtain rfl : i = l.length := by omega
            have t2 : ¬ (l.length : Int) < (l.length : Int) := by omega
            obtain ⟨D', L', q1⟩ := room_open hr
            obtain ⟨pv, cv, rfl, harg⟩ := hp.arg
            have HO := Lib.hid (show Calls Tryd.prog 9 #[.pointer (some ⟨b, 0, none⟩), .string ⟨#[97]⟩] wr _ from LOpen_ok hx.dx HT.out nA (by decide) (by rw [hr.room]; omega) q1)
            clear hr q1
            go_wp2_with fail
            with_reducible refine HO.out.mono ?_
            rintro e w6 ⟨lb2, pr2, cr2, T6, rfl, h6, k6, -, -, hrow⟩
            have HSM := Lib.hid (Same_f pr2 pv rs rs cr2 cv w6 (by unfold maxLen; omega) (by unfold maxLen; omega) (fun j hj => by
              have hj' : j < rs.length := by rw [strs_length] at hj; exact hj
              obtain ⟨g, h1, _, h3, _, _, h5⟩ := hrow j hj'
              exact ⟨g, 0, h1, h3, by rw [Nat.zero_add, strs_at _ _ hj']; exact h5⟩) (by
              obtain ⟨p7, c7, e7, h7⟩ := (HP.out.disk k6).arg
              injection e7 with e7 _ _
              rw [e7]
              exact h7))
            rw [decide_eq_true rfl] at HSM
            have H6 := Lib.hid h6.dx.below
            clear h6 k6 hrow HO hx hp harg
            go_wp2_with fail
            with_reducible refine HSM.out.mono ?_
            rintro e w7 ⟨rfl, n7, rfl⟩
            have H7 := Lib.hid (H6.out.drewN n7)
            generalize w6.drewN n7 = w7 at *
            go_wp2_with fail
            with_reducible refine (LWorks_f _ (HT.out.next H7.out)).mono ?_
            rintro e w8 ⟨rfl, hb8⟩
            have HB8 := Lib.hid (H7.out.trans (hb8.mono H7.out.size))
            clear hb8
            go_wp2
            go_ret
            exact ⟨rfl, HB8.out⟩
end Go.Proofs.YtpiaplgbpjgjiaaDoor.Lg
