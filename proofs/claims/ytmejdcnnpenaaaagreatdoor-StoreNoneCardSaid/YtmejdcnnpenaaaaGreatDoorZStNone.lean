/-
  Stores (layer 9): what no store answers: the statement StoreNone, walked. Conditions: the text is no longer than a string may be; the tables are laid.
-/
import Derived.Test.YtmejdcnnpenaaaaGreatDoorZStWorks
open Go Go.RowKit
namespace Go.Proofs.YtmejdcnnpenaaaaGreatDoor.St
open Base Mp Dk Frame Lg

set_option maxRecDepth 100000 in
theorem Find_nil (w : World) : Calls Tryz.prog 22 #[.pointer none] w fun e w' => e = .returned (.tuple #[.int .u64 0, .string ⟨#[]⟩]) ∧ w = w' := by
  have HNM := Lib.hid (Names_nil w)
  go_enter Tryz.func22, Tryz.ntmps22
  go_wp2_with fail
  with_reducible refine HNM.out.mono ?_
  rintro e w1 ⟨rfl, rfl⟩
  go_wp2_with fail
  go_loopw [2, 3, 13] (fun n t u wr => n = .int .u64 0 ∧ t = .string ⟨#[]⟩ ∧ u = .int .i64 0 ∧ w = wr) (fun _ _ _ _ => 0)
  case atStart => exact ⟨rfl, rfl, rfl, rfl⟩
  case round =>
    obtain ⟨rfl, rfl, rfl, rfl⟩ := hrel
    go_wp2
    go_ret2
    exact ⟨rfl, rfl⟩
set_option maxRecDepth 100000 in
theorem Clean_nil (w : World) : Calls Tryz.prog 29 #[.pointer none, .int .u64 0] w fun e w' => e = .returned (.int .i64 0) ∧ w = w' := by
  have HNM := Lib.hid (Names_nil w)
  go_enter Tryz.func29, Tryz.ntmps29
  go_wp2_with fail
  with_reducible refine HNM.out.mono ?_
  rintro e w1 ⟨rfl, rfl⟩
  go_wp2_with fail
  go_loopw [15] (fun u wr => u = .int .i64 0 ∧ w = wr) (fun _ _ => 0)
  case atStart => exact ⟨rfl, rfl⟩
  case round =>
    obtain ⟨rfl, rfl⟩ := hrel
    go_wp2
    go_ret
    exact ⟨rfl, rfl⟩
set_option maxRecDepth 100000 in
theorem Open1_nil {w : World} {nb db : Nat} (hnb : w.cell? ⟨nb, 0, none⟩ = some (.int .u64 0)) :
    Calls Tryz.prog 24 #[.pointer (some ⟨nb, 0, none⟩), .pointer (some ⟨db, 0, none⟩)] w fun e w' => e = .returned (.int .i64 0) ∧ Kept (fun _ => False) w w' := by
  go_enter Tryz.func24, Tryz.ntmps24
  go_wp2_with fail
  go_quiet (fail)
  go_wp2
  go_ret
  exact ⟨rfl, Kept.of_below ((Below.refl _ _).drewN _)⟩
theorem Open2_nil {w : World} {nb db : Nat} (hnb : w.cell? ⟨nb, 0, none⟩ = some (.int .u64 0)) (hdb : w.cell? ⟨db, 0, none⟩ = some (.pointer none)) :
    Calls Tryz.prog 28 #[.pointer (some ⟨db, 0, none⟩), .pointer (some ⟨nb, 0, none⟩)] w fun e w' => e = .returned (.int .i64 0) ∧ Kept (fun _ => False) w w' := by
  have C := Lib.hid (Clean_nil w)
  go_enter Tryz.func28, Tryz.ntmps28
  go_wp2_with fail
  with_reducible refine C.out.mono ?_
  rintro e w1 ⟨rfl, rfl⟩
  go_wp2
  go_ret
  exact ⟨rfl, Kept.refl _ _⟩
set_option maxRecDepth 100000 in
set_option maxHeartbeats 8000000 in
theorem Open3_nil {w : World} (hP : PowOk w) {nb db lx rx : Nat} {lv rv : Value} (hnb : w.cell? ⟨nb, 0, none⟩ = some (.int .u64 0)) (hdb : w.cell? ⟨db, 0, none⟩ = some (.pointer none)) (hlx : CellsAt w lx 1 (fun _ => lv)) (hrx : CellsAt w rx 1 (fun _ => rv)) (hne : lx ≠ rx) :
    Calls Tryz.prog 30 #[.pointer (some ⟨db, 0, none⟩), .pointer (some ⟨nb, 0, none⟩), .pointer (some ⟨lx, 0, none⟩), .pointer (some ⟨rx, 0, none⟩)] w fun e w' => e = .returned (.int .i64 1) ∧ Kept (fun i => i = lx ∨ i = rx) w w' ∧ CellsAt w' rx 1 (fun _ => .slice none 0 0) := by
  have HN : Hid (∀ W, Below w.heap.size w W → Calls Tryz.prog 26 #[.string ⟨#[108, 111, 103, 45]⟩, .int .u64 0] W fun e w' => e = .returned (.string (B (logN 0))) ∧ Below W.heap.size W w') := Lib.hid (fun W hb => Log_f 0 (by omega) W (hP.next hb))
  have HO := Lib.hid (fun W => LOpen_nil W (.string (B (logN 0))))
  have hnl := lt_of_cell hnb
  have hdl := lt_of_cell hdb
  have hll := hlx.lt (by omega)
  have hrl := hrx.lt (by omega)
  generalize logN 0 = nm at *
  have flx := (hlx 0 (by omega)).2
  have frx := (hrx 0 (by omega)).2
  clear hP
  go_enter Tryz.func30, Tryz.ntmps30
  go_wp2_with fail
  go_region_with (first
    | (go_at_call 26; (with_reducible refine (HN.out _ (Below.refl _ w).drew).mono ?_); rintro e w1 ⟨rfl, hb1⟩; have x1 := ((undrewB hb1).cell (p := ⟨nb, 0, none⟩) hnl).trans hnb; have x2 := ((undrewB hb1).cell (p := ⟨db, 0, none⟩) hdl).trans hdb; have y1 := hlx.below (undrewB hb1) hll; have y2 := hrx.below (undrewB hb1) hrl; have z3 := (y1 0 (by omega)).1; have z4 := (y1 0 (by omega)).2; have z5 := (y2 0 (by omega)).1; have z6 := (y2 0 (by omega)).2; have z7 := y1.lt (by omega); have z8 := y2.lt (by omega))
    | (go_at_call 31; (with_reducible refine (HO.out _).mono ?_); rintro e w2 ⟨rfl, rfl⟩))
  all_goals
    have HB1 := Lib.hid (undrewB hb1)
    have Z2 := Lib.hid y2
    clear hb1 z3 z4 z5 z6 x1 x2 y1 y2
    go_wp2
    go_ret
    refine ⟨rfl, (Kept.of_below (T := fun i => i = lx ∨ i = rx) HB1.out).trans (Kept.setCell (T := fun i => i = lx ∨ i = rx) (Kept.setCell (Kept.refl _ _) (.inl (.inl rfl)) _) (.inl (.inr rfl)) _) (fun _ e => .inl e), ?_⟩
    exact ((CellsAt.other Z2.out (b' := lx) (i := 0) hne _).set (i := 0) (by omega) _).congr fun j hj => (by
        obtain rfl : j = 0 := by omega
        rfl)
theorem steps_nil {ws : World} (hP : PowOk ws) {nb db lx rx g cap : Nat} {lv rv : Value} (hnb : ws.cell? ⟨nb, 0, none⟩ = some (.int .u64 0)) (hdb : ws.cell? ⟨db, 0, none⟩ = some (.pointer none)) (hlx : CellsAt ws lx 1 (fun _ => lv)) (hrx : CellsAt ws rx 1 (fun _ => rv)) (hne : lx ≠ rx)
    (g1 : ws.cell? ⟨g, 0, none⟩ = some (.func (.func 24) #[] #[.pointer (some ⟨nb, 0, none⟩), .pointer (some ⟨db, 0, none⟩)]))
    (g2 : ws.cell? ⟨g, 1, none⟩ = some (.func (.func 28) #[] #[.pointer (some ⟨db, 0, none⟩), .pointer (some ⟨nb, 0, none⟩)]))
    (g3 : ws.cell? ⟨g, 2, none⟩ = some (.func (.func 30) #[] #[.pointer (some ⟨db, 0, none⟩), .pointer (some ⟨nb, 0, none⟩), .pointer (some ⟨lx, 0, none⟩), .pointer (some ⟨rx, 0, none⟩)])) :
    Calls Tryz.prog 23 #[.slice (some ⟨g, 0, none⟩) 3 cap] ws fun e w' => e = .returned (.int .i64 1) ∧ Kept (fun i => i = lx ∨ i = rx) ws w' ∧ CellsAt w' rx 1 (fun _ => .slice none 0 0) := by
  have hll := hlx.lt (by omega)
  have hrl := hrx.lt (by omega)
  refine (Steps3 (P1 := fun w' => Kept (fun _ => False) ws w') (P2 := fun w' => Kept (fun _ => False) ws w') (P3 := fun _ => False) (Q := fun c w' => c = 1 ∧ Kept (fun i => i = lx ∨ i = rx) ws w' ∧ CellsAt w' rx 1 (fun _ => .slice none 0 0))
    (fun _ _ => by kernel_rfl) (fun _ _ => by kernel_rfl) (fun _ _ => by kernel_rfl) g1 (fun w' h => cell_kept g2 h id) (fun w' h => cell_kept g3 h id) ?_ ?_ ?_).mono ?_
  · refine (Open1_nil hnb).mono ?_
    rintro e w' ⟨rfl, hk⟩
    exact ⟨0, rfl, .inl ⟨rfl, hk⟩⟩
  · intro w1 h1
    refine (Open2_nil (cell_kept hnb h1 id) (cell_kept hdb h1 id)).mono ?_
    rintro e w' ⟨rfl, hk⟩
    exact ⟨0, rfl, .inl ⟨rfl, h1.trans hk fun _ e => e.elim⟩⟩
  · intro w2 h2
    have hb : Below ws.heap.size ws w2 := h2.below (fun _ e => e.elim) (Nat.le_refl _)
    refine (Open3_nil (hP.next hb) (cell_kept hnb h2 id) (cell_kept hdb h2 id) (hlx.kept h2 hll id) (hrx.kept h2 hrl id) hne).mono ?_
    rintro e w' ⟨rfl, hk, hc⟩
    exact ⟨1, rfl, .inr ⟨by decide, rfl, (h2.mono (T' := fun i => i = lx ∨ i = rx) fun _ e => e.elim).trans hk fun _ e => .inl e, hc⟩⟩
  · rintro e w' ⟨c, rfl, ⟨_, h⟩ | ⟨_, rfl, h1, h2⟩⟩
    · exact h.elim
    · exact ⟨rfl, h1, h2⟩
set_option maxRecDepth 100000 in
set_option maxHeartbeats 8000000 in
theorem SOpen_nil (w : World) (hL : Laid w) : Calls Tryz.prog 9 #[.pointer none] w fun e w' => e = .returned (.tuple #[.pointer none, .string ⟨#[]⟩, .slice none 0 0, .int .i64 1]) ∧ Below w.heap.size w w' := by
  have HF := Lib.hid (fun W => Find_nil W)
  have HS := Lib.hid (fun ws (hb : Below w.heap.size w ws) (nb db lx rx g cap : Nat) (lv rv : Value) => @steps_nil ws (hL.next hb).pow nb db lx rx g cap lv rv)
  clear hL
  go_enter Tryz.func9, Tryz.ntmps9
  go_wp2_with fail
  with_reducible refine (HF.out _).mono ?_
  rintro e w1 ⟨rfl, hw1⟩
  have hb1 : Below ((w.alloc (.cells #[.pointer none] 25)).alloc (.cells #[.slice none 0 0] 22)).heap.size ((w.alloc (.cells #[.pointer none] 25)).alloc (.cells #[.slice none 0 0] 22)) w1 := by rw [← hw1]; exact Below.refl _ _
  have HB1 := Lib.hid hb1
  clear hb1 hw1 HF
  go_wp2_with fail
  obtain ⟨q1, q2, q3, q4, q5, q6, q7, q8, q9, qa⟩ := open_cells HB1.out (ws := _) rfl
  have q60 := (q6 0 (by omega)).1
  have q40 := (q4 0 (by omega)).1
  with_reducible refine (HS.out _ q1 _ _ _ _ _ _ _ _ q60 q40 q7 q5 (by omega) q8 q9 qa).mono ?_
  have Q := Lib.hid (And.intro q1 q2)
  clear q1 q2 q3 q4 q5 q6 q7 q8 q9 qa q60 q40 HS
  generalize (((w1.alloc (Obj.cells _ _)).alloc (Obj.cells _ _)).alloc (Obj.cells _ _)) = ws at *
  rintro e w2 ⟨rfl, k2, hbox⟩
  have K2 := Lib.hid k2
  have HX := Lib.hid hbox
  have c4 := (hbox 0 (by omega)).1
  have c5 := (hbox 0 (by omega)).2
  clear k2 hbox
  go_wp2
  refine bodyPost_ret (results_t2ct rfl _ _ _ ⟨w.heap.size + 1, 0, none⟩ rfl (.slice none 0 0) (load_row ?_)) rfl ?_
  · exact ((CellsAt.set HX.out (i := 0) (by omega) (.slice none 0 0)) 0 (by omega)).1
  obtain ⟨q1, q2⟩ := Q.out
  refine ⟨rfl, ?_⟩
  have k3 := Kept.setCell (p := ⟨w.heap.size + 1, 0, none⟩) K2.out (.inl (.inr rfl)) (.slice none 0 0)
  exact q1.trans (k3.below (fun i hi => by rcases hi with rfl | rfl <;> omega) q1.size)
set_option maxRecDepth 100000 in
set_option maxHeartbeats 4000000 in
theorem StoreNone_calls (w : World) (s : Key) (hs : s.length ≤ maxLen) (hL : Laid w) : Calls Tryz.prog 5 #[.string (B s)] w fun e w' => e = .returned (.bool true) ∧ Below w.heap.size w w' := by
  have HL := Lib.hid hL
  have HW := Lib.hid (fun W (hb : Below w.heap.size w W) => SWorks_f W (hL.next hb))
  unfold maxLen at hs
  clear hL
  by_cases h : 4096 < s.length
  · have h1 : (4096 : Int) < (s.length : Int) := by omega
    go_enter Tryz.func5, Tryz.ntmps5
    go_wp2_with fail
    with_reducible refine (HW.out w (Below.refl _ _)).mono ?_
    rintro e w1 ⟨rfl, hb1⟩
    go_wp2
    go_ret
    exact ⟨rfl, hb1⟩
  · have h1 : ¬ (4096 : Int) < (s.length : Int) := by omega
    have HO := Lib.hid (SOpen_nil w HL.out)
    go_enter Tryz.func5, Tryz.ntmps5
    go_wp2_with fail
    with_reducible refine HO.out.mono ?_
    rintro e w1 ⟨rfl, hb1⟩
    have HB1 := Lib.hid hb1
    clear hb1 HO
    go_wp2_with fail
    with_reducible refine (SAppend_n _ _).mono ?_
    rintro e w2 ⟨rfl, hw2⟩
    have HB2 := Lib.hid (show Below w.heap.size w w2 by rw [← hw2]; exact HB1.out.trans (((Below.refl _ w1).alloc (Nat.le_refl _) _).mono HB1.out.size))
    clear hw2
    go_wp2_with fail
    with_reducible refine (SSync_n _).mono ?_
    rintro e w3 ⟨rfl, rfl⟩
    go_wp2_with fail
    with_reducible refine (SSave_n _ _).mono ?_
    rintro e w3 ⟨rfl, rfl⟩
    go_wp2_with fail
    with_reducible refine (SNumber_n _).mono ?_
    rintro e w3 ⟨rfl, rfl⟩
    go_wp2_with fail
    with_reducible refine (SCount_n _).mono ?_
    rintro e w3 ⟨rfl, rfl⟩
    go_wp2_with fail
    with_reducible refine (SSure_n _).mono ?_
    rintro e w3 ⟨rfl, rfl⟩
    go_wp2_with fail
    with_reducible refine (SLen_n _).mono ?_
    rintro e w3 ⟨rfl, rfl⟩
    go_wp2_with fail
    with_reducible refine (HW.out _ HB2.out).mono ?_
    rintro e w3 ⟨rfl, hb3⟩
    have HB3 := Lib.hid (HB2.out.trans (hb3.mono HB2.out.size))
    clear hb3
    go_wp2
    go_ret
    exact ⟨rfl, HB3.out⟩
end Go.Proofs.YtmejdcnnpenaaaaGreatDoor.St
