/-
  Logs (layer 8): the statement LogPlays, walked. Conditions: the script lies in memory and is within the reach; the sum's table is laid; the room is of its kind.
-/
import Derived.Deep.RegionHeld3
import Derived.Deep.CutRange
import Derived.Deep.CutBlock
import Derived.Test.YtpiaplgbpjgjiaaGreatDoorZLpCall
import Derived.Test.YtpiaplgbpjgjiaaGreatDoorZLpHeavy
open Go Go.RowKit
namespace Go.Proofs.YtpiaplgbpjgjiaaGreatDoor.Lp
open Base Mp Dk Frame Lg

/-- A step in its box. -/
structure BoxAt (W : World) (q : Nat) (s : LStep) : Prop where
  c0 : W.cell? ⟨q, 0, none⟩ = some (.int .i64 s.x.do_)
  c1 : W.cell? ⟨q, 1, none⟩ = some (.string (B s.x.name))
  c2 : W.cell? ⟨q, 2, none⟩ = some (.string (B s.x.s))
  c3 : W.cell? ⟨q, 3, none⟩ = some (.int .i64 s.x.n)
  c4 : W.cell? ⟨q, 4, none⟩ = some (.int .u8 (s.x.by_.toNat : Int))
  c5 : W.cell? ⟨q, 5, none⟩ = some (.slice s.x.kp s.x.keep.length s.x.kc)
  c6 : W.cell? ⟨q, 6, none⟩ = some (.slice s.lp s.l.length s.lc)
theorem box_made (w : World) (s : LStep) (e : TypeId) : BoxAt (w.alloc (.cells (lstepCs s) e)) w.heap.size s := by
  have hc := cells_made w (lstepCs s) e
  exact ⟨(hc 0 (by simp [lstepCs])).1, (hc 1 (by simp [lstepCs])).1, (hc 2 (by simp [lstepCs])).1, (hc 3 (by simp [lstepCs])).1, (hc 4 (by simp [lstepCs])).1, (hc 5 (by simp [lstepCs])).1, (hc 6 (by simp [lstepCs])).1⟩
theorem BoxAt.kept {W W' : World} {q : Nat} {s : LStep} {X : Nat → Prop} (h : BoxAt W q s) (hk : Kept X W W') (hX : ¬ X q) : BoxAt W' q s :=
  ⟨cell_kept h.c0 hk hX, cell_kept h.c1 hk hX, cell_kept h.c2 hk hX, cell_kept h.c3 hk hX, cell_kept h.c4 hk hX, cell_kept h.c5 hk hX, cell_kept h.c6 hk hX⟩
/-- What stands between two rounds. -/
def Rnd (w0 w : World) (b rb room i : Nat) (lv gv : Value) : Prop := ∃ k D S V, LP w0 w b rb room i lv gv k D S V
set_option maxRecDepth 100000 in
set_option maxHeartbeats 8000000 in
theorem LogPlays_calls (w : World) (room : Nat) (p : Option Addr) (cap : Nat) (l : List LStep) (hrm : room < 65536) (hl : l.length ≤ maxLen) (h : LArg w p l) (hT : Crc.TabOk w) :
    Calls Tryz.prog 3 #[.int .u16 (room : Int), .slice p l.length cap] w fun e w' => e = .returned (.bool true) ∧ Below w.heap.size w w' := by
  have HH := Lib.hid (LHeavy_f p l cap w hl h)
  have HA := Lib.hid h
  have HT := Lib.hid hT
  unfold maxLen at hl
  clear h hT
  go_enter Tryz.func3, Tryz.ntmps3
  go_wp2_with fail
  with_reducible refine HH.out.mono ?_
  rintro e w1 ⟨⟨hv, rfl, hlt⟩, hb1⟩
  have HLT := Lib.hid hlt
  have HB1 := Lib.hid hb1
  clear hlt hb1 HH
  cases hv with
  | true =>
    have HW := Lib.hid (LWorks_f w1 (HT.out.next HB1.out))
    go_wp2_with fail
    with_reducible refine HW.out.mono ?_
    rintro e w2 ⟨rfl, hb2⟩
    have HB2 := Lib.hid (HB1.out.trans (hb2.mono HB1.out.size))
    clear hb2 HW
    go_wp2
    go_ret
    exact ⟨rfl, HB2.out⟩
  | false =>
    have HLI := Lib.hid (HLT.out rfl)
    have hl150 : l.length ≤ 150 := HLI.out.1
    have m2 : IntKind.i64.wrap (room : Int) = (room : Int) := by rw [IntKind.wrap_i64]; omega
    have HN := Lib.hid (show Calls Tryz.prog 6 #[.int .i64 (room : Int)] w1 fun e w' => ∃ b, e = .returned (.tuple #[.pointer (some ⟨b, 0, none⟩), .int .i64 0]) ∧ DW w w' b (DL0 room) from DW.new (r := room) (by omega) HB1.out)
    clear HLT
    go_wp2_with fail
    with_reducible refine HN.out.mono ?_
    rintro e w2 ⟨b, rfl, h2⟩
    obtain ⟨T2, h2⟩ := dx_of h2
    have H2 := Lib.hid h2
    have HR := Lib.hid (RNew_f w2 room (by omega))
    clear h2 HN
    go_wp2_with fail
    with_reducible refine HR.out.mono ?_
    rintro e w3 ⟨rfl, h3, hb3⟩
    have HS3 := Lib.hid (LP.start H2.out H2.out.below.size hb3 h3 (fun i hi => by rw [hi]; exact Nat.le_refl _))
    clear h3 hb3 HR H2 HB1
    generalize w2.heap.size = rb at *
    have HO := Lib.hid (open_p HS3.out HT.out (show (DL0 room).room ≤ 65535 from by show room ≤ 65535; omega))
    go_wp2_with fail
    with_reducible refine HO.out.mono ?_
    rintro e w4 ⟨lv, pr, cr, rfl, h4, -, -, -⟩
    have HO2 := Lib.hid (open_d h4 (show (DL0 room).room ≤ 65535 from by show room ≤ 65535; omega))
    clear h4 HO
    go_wp2_with fail
    with_reducible refine HO2.out.mono ?_
    rintro e w5 ⟨gv, rfl, h5, -⟩
    have hq1 := nil_l h5 w5
    have hq2 := nil_g h5 w5
    have hq3 := guard_l h5 (.tmp 54) w5
    have hq4 := guard_g h5 (.tmp 56) w5
    rw [show ((openL (DL0 room) nA).2.1.map (·.1)).isNone = (openL (DL0 room) nA).2.1.isNone by cases (openL (DL0 room) nA).2.1 <;> rfl] at hq1
    have HRN := Lib.hid (show Rnd w w5 b rb room 0 lv gv from ⟨_, _, _, _, ⟨h5, (open_room _ _), fun L rs hL => by
      have := (open_told (fine0 (show room ≤ 4194304 by omega)) hL).2
      have h9 : (DL0 room).room = room := rfl
      omega⟩⟩)
    clear h5 HO2 HS3
    generalize (openL (DL0 room) nA).2.1.isNone = nb at *
    generalize (openL (DL0 room) nA).2.2 = cc at *
    go_wp2_with fail
    clear hq1 hq2 hq3 hq4
    go_loopw [8, 11, 13] (fun lv gv u wr => ∃ i : Nat, u = .int .i64 (i : Int) ∧ i ≤ l.length ∧ Rnd w wr b rb room i lv gv) (fun _ _ u _ => l.length - (intOf u).toNat)
    case atStart => exact ⟨0, rfl, Nat.zero_le _, HRN.out⟩
    case round =>
      clear HRN m2
      obtain ⟨i, rfl, hi, k, D, S, V, hlp⟩ := hrel
      by_cases hin : i < l.length
      · obtain ⟨bs, os, rfl, hs, hf⟩ := HA.out.below hlp.below i hin
        obtain ⟨⟨c0, c1, c2, c3, c4, c5⟩, c6⟩ := hs
        have hmem := HLI.out.2 _ (List.getElem_mem hin)
        have t1 : (i : Int) < (l.length : Int) := by omega
        have t2 : 0 ≤ (i : Int) := by omega
        have HIN := Lib.hid hin
        have hrow0 : RowArg w l[i].lp (strs l[i].l) ∧ IntsAt w l[i].x.kp l[i].x.keep := by
          obtain ⟨b1, o1, -, -, hf0⟩ := HA.out i hin
          exact ⟨hf0.row, hf0.fit.ints⟩
        have hal : Below wr.heap.size wr (wr.alloc (.cells (lstepCs l[i]) 43)) := (Below.refl _ wr).alloc (Nat.le_refl _) _
        have HBX := Lib.hid (box_made wr l[i] 43)
        have HLP := Lib.hid (hlp.later hal)
        have HFT := Lib.hid (hf.below hal)
        have HME := Lib.hid hmem
        have HR0 := Lib.hid hrow0.1
        have HI0 := Lib.hid hrow0.2
        have HNV := Lib.hid (show (∀ j, S j → j < wr.heap.size) ∧ (∀ j, V j → j < wr.heap.size) from ⟨fun j hj => (hlp.both.p.old j hj).2, fun j hj => (hlp.both.d.old j hj).2⟩)
        clear hf hlp hmem hrow0 hal
        generalize hx : l[i] = x at *
        clear hx hin
        obtain ⟨⟨dd, nm, st, nn, yy, kk, kp, kc⟩, lt, lp, lc⟩ := x
        simp only at c0 c1 c2 c3 c4 c5 c6
        unfold lstepCs at HBX HLP HFT
        simp only at HBX HLP HFT HME HR0 HI0
        go_upto_block 2 with fail
        generalize (wr.alloc (.cells #[.int .i64 dd, .string (B nm), .string (B st), .int .i64 nn, .int .u8 (yy.toNat : Int), .slice kp kk.length kc, .slice lp lt.length lc] 43)) = W1 at *
        clear c0 c1 c2 c3 c4 c5 c6
        obtain ⟨c0, c1, c2, c3, c4, c5, c6⟩ := HBX.out
        simp only at c0 c1 c2 c3 c4 c5 c6
        generalize wr.heap.size = q at *
        go_cut [8, 11, 15, 16, 17, 18, 19, 20] from 60 to 189 (fun lv2 gv2 fine _ _ _ _ _ wx => fine = .bool true ∧ Rnd w wx b rb room (i + 1) lv2 gv2)
        case first =>
          by_cases w10 : dd = 10
          · subst w10
            cases k with
            | none =>
              as_aux_lemma =>
                obtain ⟨rfl, rfl⟩ := HLP.out.nil
                have HEND := Lib.hid (fun n => (HLP.out.later ((Below.refl W1.heap.size W1).drewN n)).next)
                clear HLP HBX HFT HR0
                go_wp2_with fail
                go_quiet (fail)
                go_wp2
                go_meet
                exact ⟨rfl, none, D, S, V, HEND.out _⟩
            | some kr =>
              obtain ⟨L, rs⟩ := kr
              as_aux_lemma =>
                obtain ⟨lb, gb, pg, cg, rfl, rfl, -, -, -⟩ := HLP.out.ptrs
                have HTD := Lib.hid HLP.out.told
                have hsz : L.size ≤ 9830250 := by have := HLP.out.told.2; omega
                have hcn : L.count ≤ 9830250 := by have := puts_len rs; have h8 := HLP.out.told.1.size; have h9 := HLP.out.told.1.count; omega
                have HSH := Lib.hid (show ∀ r ∈ lt, r.length ≤ 1048576 from fun r hr => by have h8 := mem_weight hr; have h9 := HME.out.2.2.2; omega)
                have HSM := Lib.hid (show (puts lt).length ≤ 65536 from by have h8 := puts_weight lt; have h9 := HME.out.2.2.2; omega)
                obtain ⟨p2, cp2, w2, hr2, ho2, hb2⟩ := append_strs W1.drew lp lc lt (HFT.out.row.drewN 1) (by have := HME.out.1; omega)
                have hb2' : Below W1.heap.size W1 w2 := ⟨hb2.os, hb2.tape, hb2.output, hb2.size, hb2.block⟩
                obtain ⟨p3, cp3, e3, hrow2, -, -⟩ := RowArg.of_own ho2
                obtain ⟨rfl, rfl⟩ : p2 = p3 ∧ cp2 = cp3 := by
                  injection e3 with e4 _ e5
                  exact ⟨e4, e5⟩
                have HR2 := Lib.hid hr2
                have HP1 := Lib.hid (put_p (L := L) (HLP.out.both.later hb2') HT.out p2 cp2 lt ⟨hrow2, HSH.out, Nat.le_trans HSM.out (by decide), by omega, by omega, by rw [HTD.out.1.name]; decide⟩)
                have HQ := Lib.hid (show q < W1.heap.size from lt_of_cell c6)
                have x2 : w2.cell? ⟨q, 6, none⟩ = some (.slice lp lt.length lc) := (hb2'.cell (p := ⟨q, 6, none⟩) HQ.out).trans c6
                have HD1 := Lib.hid (fun W S' (hW : Both w W b rb (putRs D L lt).1 D (.pointer (some ⟨lb, 0, none⟩)) (.pointer (some ⟨gb, 0, none⟩)) (some (putRs D L lt).2.1) (some (L, rs)) S' V) => put_d hW lp lc lt ⟨HR0.out.below hW.p.below, HSH.out, Nat.le_trans HSM.out (by decide), by have := HTD.out.2; omega⟩ (fun h0 a ha => by
                  obtain ⟨b1, o1, e1, h9, -⟩ := HR0.out 0 (by rw [strs_length]; exact List.length_pos_iff.2 h0)
                  rw [e1] at ha
                  injection ha with ha
                  rw [← ha]
                  exact h9))
                clear hr2 ho2 hb2 hb2' e3 hrow2 HFT HBX hcn
                obtain ⟨cc, hcc⟩ : ∃ cc, cc = (putRs D L lt).2.2 := ⟨_, rfl⟩
                rw [← hcc] at HP1 HD1
                clear hcc
                go_wp2_with fail
                go_region_held3 (fun W => W.cell? ⟨q, 6, none⟩ = some (.slice lp lt.length lc)) (first | go_keep | exact x2 | exact x3 | exact x4)
                  (first
                  | (go_at_call 10; (with_reducible refine HP1.out.mono ?_); rintro e w3 ⟨rfl, h3, k3⟩; have x3 : w3.cell? ⟨q, 6, none⟩ = some (.slice lp lt.length lc) := cell_kept x2 k3 (fun hq => absurd (HNV.out.1 _ hq) (Nat.lt_irrefl _)))
                  | (go_at_call 11; (with_reducible refine (HD1.out _ _ h3).mono ?_); rintro e w4 ⟨rfl, h4, k4⟩; have x4 : w4.cell? ⟨q, 6, none⟩ = some (.slice lp lt.length lc) := cell_kept x3 k4 (fun hq => absurd (HNV.out.2 _ hq) (Nat.lt_irrefl _)))
                  | (refine step_append_w (by rfl) _ _ _ _ (by with_reducible rfl) (by rfl) (by rfl) HR2.out ?_)
                  | fail)
                have HEND := Lib.hid (HLP.out.made_put lt h4 (by omega))
                clear h3 k3 x3 h4 k4 x4 x2 HP1 HD1
                go_wp2
                go_meet
                exact ⟨rfl, _, _, _, _, HEND.out⟩
          by_cases w11 : dd = 11
          · subst w11
            clear w10
            cases k with
            | none =>
              as_aux_lemma =>
                obtain ⟨rfl, rfl⟩ := HLP.out.nil
                have HEND := Lib.hid (fun n => (HLP.out.later ((Below.refl W1.heap.size W1).drewN n)).next)
                clear HLP HBX HFT HR0
                go_wp2
                go_meet
                exact ⟨rfl, none, D, S, V, HEND.out 0⟩
            | some kr =>
              obtain ⟨L, rs⟩ := kr
              as_aux_lemma =>
                obtain ⟨lb, gb, pg, cg, rfl, rfl, -, -, -⟩ := HLP.out.ptrs
                have HTD := Lib.hid HLP.out.told
                have hsz : L.size ≤ 9830250 := by have := HLP.out.told.2; omega
                have hcn : L.count ≤ 9830250 := by have := puts_len rs; have h8 := HLP.out.told.1.size; have h9 := HLP.out.told.1.count; omega
                have HP1 := Lib.hid (keep_p HLP.out.both HTD.out.1.name)
                have HD1 := Lib.hid (fun W S' (hW : Both w W b rb (keepL D L).1 D (.pointer (some ⟨lb, 0, none⟩)) (.pointer (some ⟨gb, 0, none⟩)) (some (keepL D L).2.1) (some (L, rs)) S' V) => keep_d hW)
                clear HFT HBX hcn hsz
                obtain ⟨cc, hcc⟩ : ∃ cc, cc = (keepL D L).2.2 := ⟨_, rfl⟩
                rw [← hcc] at HP1 HD1
                clear hcc
                go_wp2_with fail
                with_reducible refine HP1.out.mono ?_
                rintro e w3 ⟨rfl, h3⟩
                go_wp2_with fail
                with_reducible refine (HD1.out _ _ h3).mono ?_
                rintro e w4 ⟨rfl, h4⟩
                have HEND := Lib.hid (HLP.out.made_keep h4)
                clear h3 h4 HP1 HD1
                go_wp2
                go_meet
                exact ⟨rfl, _, _, _, _, HEND.out⟩
          by_cases w12 : dd = 12
          · subst w12
            clear w10 w11
            as_aux_lemma =>
              have hro : D.room ≤ 65535 := by rw [HLP.out.room]; omega
              have HP1 := Lib.hid (open_p HLP.out.both HT.out hro)
              have HRO := Lib.hid hro
              clear HFT HBX hro
              go_wp2_with fail
              with_reducible refine HP1.out.mono ?_
              rintro e w3 ⟨lv2, pr2, cr2, rfl, h3, hiff, hrow3, hnv3⟩
              have HD1 := Lib.hid (open_d h3 HRO.out)
              have HX3 := Lib.hid (And.intro hiff (And.intro hrow3 hnv3))
              clear h3 hiff hrow3 hnv3 HP1
              go_wp2_with fail
              with_reducible refine HD1.out.mono ?_
              rintro e w4 ⟨gv2, rfl, h4, k4⟩
              have HL4 := Lib.hid (HLP.out.made_open h4 (by omega))
              have HK4 := Lib.hid k4
              clear h4 k4 HD1 HLP
              generalize (openL D nA).1 = D4 at *
              generalize (openL D nA).2.2 = c4 at *
              generalize (openL D nA).2.1 = k4 at *
              cases k4 with
              | none =>
                obtain ⟨rfl, rfl⟩ := HL4.out.nil
                rw [show toldRs none = [] from rfl]
                simp only [List.length_nil]
                go_wp2
                go_meet
                exact ⟨rfl, _, _, _, _, HL4.out⟩
              | some kr =>
                obtain ⟨L4, rs4⟩ := kr
                obtain ⟨lb, gb, pg, cg, rfl, rfl, -, hg4, ho4⟩ := HL4.out.ptrs
                rw [show toldRs (some (L4, rs4)) = rs4 from rfl] at HX3 ⊢
                have g2 : w4.cell? ⟨gb, 2, none⟩ = some (.slice pg rs4.length cg) := (hg4 2 (by omega)).1
                obtain ⟨p5, c5', e5, hrow5, -, hmx⟩ := RowArg.of_own ho4
                obtain ⟨rfl, rfl⟩ : pg = p5 ∧ cg = c5' := by
                  injection e5 with e6 _ e7
                  exact ⟨e6, e7⟩
                have hrow4 : RowArg w4 pr2 (strs rs4) := fun j hj => by
                  obtain ⟨b1, o1, e1, h8, h9⟩ := HX3.out.2.1 j hj
                  exact ⟨b1, o1, e1, Nat.lt_of_lt_of_le h8 HK4.out.size, cell_kept h9 HK4.out (HX3.out.2.2 _ e1 (fun e => by rw [e] at hj; simp [strs] at hj))⟩
                have HSM := Lib.hid (Same_f pr2 pg rs4 rs4 cr2 cg w4 hmx hmx hrow4 hrow5)
                rw [show decide (rs4 = rs4) = true from by simp] at HSM
                clear hg4 ho4 e5 hrow5 hmx hrow4 HX3 HK4
                go_wp2_with fail
                with_reducible refine HSM.out.mono ?_
                rintro e w5 ⟨rfl, hw5⟩
                have HEND := Lib.hid (HL4.out.later (drawn_below hw5))
                clear hw5 HSM g2
                go_wp2
                go_meet
                exact ⟨rfl, _, _, _, _, HEND.out⟩
          · have q10 : (dd == 10) = false := by simpa using w10
            have q11 : (dd == 11) = false := by simpa using w11
            have q12 : (dd == 12) = false := by simpa using w12
            clear w10 w11 w12
            as_aux_lemma =>
              have HX := Lib.hid (show TFit W1 ⟨dd, nm, st, nn, yy, kk, kp, kc⟩ from ⟨Nat.le_trans HME.out.2.1 (by decide), HFT.out.fit.n, HFT.out.fit.ints⟩)
              have HP1 := Lib.hid (step_p HLP.out.both ⟨dd, nm, st, nn, yy, kk, kp, kc⟩ (.slice lp lt.length lc) HX.out HFT.out.fit.keep (Nat.le_trans HME.out.2.2.1 (by decide)))
              simp only at HP1
              go_wp2_with fail
              with_reducible refine HP1.out.mono ?_
              rintro e w3 ⟨rfl, h3, k3⟩
              obtain ⟨d0, d1, d2, d3, d4, d5, d6⟩ := HBX.out.kept k3 (fun hq => absurd (HNV.out.1 _ hq) (Nat.lt_irrefl _))
              simp only at d0 d1 d2 d3 d4 d5 d6
              have hx3 : TFit w3 ⟨dd, nm, st, nn, yy, kk, kp, kc⟩ := ⟨HX.out.s, HX.out.n, ints_kept (T := fun _ => False) HI0.out (Kept.of_below h3.p.below) (fun _ _ h => h)⟩
              have HD1 := Lib.hid (step_d h3 ⟨dd, nm, st, nn, yy, kk, kp, kc⟩ (.slice lp lt.length lc) hx3)
              simp only at HD1
              clear h3 k3 hx3 HP1 c0 c1 c2 c3 c4 c5 c6
              go_wp2_with fail
              with_reducible refine HD1.out.mono ?_
              rintro e w4 ⟨rfl, h4⟩
              have HEND := Lib.hid (HLP.out.made_step ⟨dd, nm, st, nn, yy, kk, kp, kc⟩ h4)
              clear h4 HD1 d0 d1 d2 d3 d4 d5 d6
              go_wp2
              go_meet
              exact ⟨rfl, _, _, _, _, HEND.out⟩
        case rest =>
          clear c0 c1 c2 c3 c4 c5 c6 HBX HLP HFT HME HR0 HI0 HNV
          obtain ⟨rfl, k2, D2, S2, V2, h2⟩ := hcut
          cases k2 with
          | none =>
            as_aux_lemma =>
              obtain ⟨rfl, rfl⟩ := h2.nil
              have H2 := Lib.hid h2
              have HAL := Lib.hid (fun (x : Later wc) => (h2.later x.below).alike.mono (R' := fun e w' => e = .returned (.bool true) ∧ ∃ y : Later wc, w' = y.to_) fun e w' h => ⟨h.1, ⟨w', later x.below h.2⟩, rfl⟩)
              have HBD := Lib.hid (Below.refl wc.heap.size wc).drew
              haveI hne : Nonempty (Later wc) := ⟨⟨wc, Below.refl _ _⟩⟩
              clear h2
              go_wp2_with fail
              refine wp_region_class_lit (C := fun w' => ∃ x : Later wc, w' = x.to_) (by kernel_rfl) (by kernel_rfl) ⟨⟨_, HBD.out⟩, rfl⟩ ?_
              repeat (go_big_quiet_step (exact HAL.out _))
              refine wpQuiet_nil ?_
              rintro w6 ⟨⟨w7, hb6⟩, rfl⟩
              have HEND := Lib.hid (H2.out.later hb6)
              clear hb6 HAL hne
              go_wp2
              go_roundw
              case rel =>
                first
                  | exact ⟨i + 1, by go_num, HIN.out, _, _, _, _, HEND.out⟩
                  | ((repeat apply Exists.intro); exact ⟨⟨i + 1, by go_num, HIN.out, _, _, _, _, HEND.out⟩, rfl⟩)
              case measure => have := HIN.out; simp [intOf]; omega
          | some kr =>
            obtain ⟨L, rs⟩ := kr
            as_aux_lemma =>
              obtain ⟨lb, gb, pg, cg, rfl, rfl, hl2, hg2, ho2⟩ := h2.ptrs
              have H2 := Lib.hid h2
              have hsz : L.size ≤ 1099511627776 := by have := h2.told.2; omega
              have hal := (h2.later (Below.refl wc.heap.size wc).drew).alike
              have HAL := Lib.hid hal
              have HBD := Lib.hid (Below.refl wc.heap.size wc).drew
              have g2 : wc.cell? ⟨gb, 2, none⟩ = some (.slice pg rs.length cg) := (hg2 2 (by omega)).1
              have g3 : wc.cell? ⟨gb, 3, none⟩ = some (.int .i64 (L.sure : Int)) := (hg2 3 (by omega)).1
              have HGB := Lib.hid (show gb < wc.heap.size from lt_of_cell g2)
              have HLB := Lib.hid (CellsAt.lt hl2 (by omega))
              have HLN := Lib.hid (fun W (hW : Below wc.heap.size wc W) => LLen_f (hl2.below hW HLB.out))
              have HCN := Lib.hid (fun W (hW : Below wc.heap.size wc W) => LCount_f (hl2.below hW HLB.out))
              have HSU := Lib.hid (fun W (hW : Below wc.heap.size wc W) => LSure_f (hl2.below hW HLB.out))
              have HRL := Lib.hid (fun W (hW : Below wc.heap.size wc W) => RGLen_f (hg2.below hW HGB.out) (own_next ho2 hW) h2.told.1 hsz)
              rw [h2.told.1.count] at HCN
              clear h2 hsz hal hl2 hg2 ho2
              go_wp2_with fail
              go_region_held3 (fun W => W.cell? ⟨gb, 2, none⟩ = some (.slice pg rs.length cg) ∧ W.cell? ⟨gb, 3, none⟩ = some (.int .i64 (L.sure : Int))) (first | go_keep | exact ⟨x2, x3⟩)
                (first
                | (go_at_call 17; (with_reducible refine HAL.out.mono ?_); rintro e w6 ⟨rfl, hb6⟩; have hbw := later HBD.out hb6; have x2 : w6.cell? ⟨gb, 2, none⟩ = some (.slice pg rs.length cg) := (hbw.cell (p := ⟨gb, 2, none⟩) HGB.out).trans g2; have x3 : w6.cell? ⟨gb, 3, none⟩ = some (.int .i64 (L.sure : Int)) := (hbw.cell (p := ⟨gb, 3, none⟩) HGB.out).trans g3)
                | (go_at_call 18; (with_reducible refine (HLN.out _ hbw).mono ?_); rintro e w7 ⟨rfl, rfl⟩)
                | (go_at_call 19; (with_reducible refine (HRL.out _ hbw).mono ?_); rintro e w7 ⟨rfl, rfl⟩)
                | (go_at_call 20; (with_reducible refine (HCN.out _ hbw).mono ?_); rintro e w7 ⟨rfl, rfl⟩)
                | (go_at_call 21; (with_reducible refine (HSU.out _ hbw).mono ?_); rintro e w7 ⟨rfl, rfl⟩)
                | fail)
              have HEND := Lib.hid (H2.out.later hbw)
              clear hb6 hbw x2 x3 HAL HLN HCN HSU HRL
              go_wp2
              go_roundw
              case rel =>
                first
                  | exact ⟨i + 1, by go_num, HIN.out, _, _, _, _, HEND.out⟩
                  | ((repeat apply Exists.intro); exact ⟨⟨i + 1, by go_num, HIN.out, _, _, _, _, HEND.out⟩, rfl⟩)
              case measure => have := HIN.out; simp [intOf]; omega
      · have t1 : ¬ (i : Int) < (l.length : Int) := by omega
        have hb9 := hlp.below
        have HW := Lib.hid (LWorks_f wr (HT.out.next hb9))
        have HB9 := Lib.hid hb9
        clear hlp hb9
        go_wp2_with fail
        with_reducible refine HW.out.mono ?_
        rintro e w9 ⟨rfl, hb9⟩
        have HBA := Lib.hid (HB9.out.trans (hb9.mono HB9.out.size))
        clear hb9
        go_wp2
        go_ret
        exact ⟨rfl, HBA.out⟩
end Go.Proofs.YtpiaplgbpjgjiaaGreatDoor.Lp
