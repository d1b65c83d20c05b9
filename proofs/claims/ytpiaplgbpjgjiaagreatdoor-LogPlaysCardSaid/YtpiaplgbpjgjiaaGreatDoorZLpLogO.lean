/-
  The document's log (layer 8): the walk of Open. Conditions: the disk is the call's own; its room is no more than a scan takes.
-/
import Derived.Test.YtpiaplgbpjgjiaaGreatDoorZLpLog
open Go Go.RowKit
namespace Go.Proofs.YtpiaplgbpjgjiaaGreatDoor.Lp
open Base Mp Dk Frame Lg

/-- What the document's Open answers. -/
def ROPost (w : World) (rb : Nat) (R : Nat → Prop) (r : DiskD × Option (LogD × List Key) × Int) (e : Ending) (w' : World) : Prop :=
  ∃ R', (∀ i, R i → R' i) ∧ (∀ i, R' i → More R w w' i) ∧ (∃ g cap o, RDAt w' rb g cap r.1 o R') ∧ Kept R w w' ∧
    ((r.2.1 = none ∧ r.2.2 ≠ 0 ∧ e = .returned (.tuple #[.pointer none, .int .i64 r.2.2])) ∨
     ∃ L rs gb v, r.2.1 = some (L, rs) ∧ r.2.2 = 0 ∧ e = .returned (.tuple #[.pointer (some ⟨gb, 0, none⟩), .int .i64 0]) ∧ w.heap.size ≤ gb ∧ CellsAt w' gb 5 (gCell rb v L) ∧ ¬ R' gb ∧ w'.ownsRow w.heap.size 9 1 v rs.length (strs rs) ∧ ∀ k, v.ownBlock = some k → ¬ R' k ∧ k ≠ gb)
/-- What stands between the disk's calls. -/
structure Between (w w2 w3 : World) (rb : Nat) (D : DiskD) (R R1 : Nat → Prop) : Prop where
  a1 : ∀ i, R i → R1 i
  a2 : ∀ i, R1 i → More R w w2 i
  dk : ∃ g cap o, RDAt w2 rb g cap D o R1
  k2 : Kept R w w2
  b3 : Below w2.heap.size w2 w3
section
variable {w w2 w3 w4 : World} {rb : Nat} {D D4 : DiskD} {R R1 : Nat → Prop} {v : Value} {t : Key}
theorem Between.old (h : Between w w2 w3 rb D R R1) : ∀ i, R1 i → i < w2.heap.size := by
  obtain ⟨g, cap, o, h1⟩ := h.dk
  exact h1.old
theorem Between.more (h : Between w w2 w3 rb D R R1) (h3 : w3.heap.size ≤ w4.heap.size) : ∀ i, More R1 w3 w4 i → More R w w4 i := fun i hi => by
  have h5 := h.k2.size
  have h6 := h.b3.size
  rcases hi with hi | hi
  · exact (h.a2 i hi).imp id fun h7 => ⟨h7.1, by omega⟩
  · exact .inr ⟨by omega, hi.2⟩
theorem Between.kept (h : Between w w2 w3 rb D R R1) (k4 : Kept R1 w3 w4) : Kept R w w4 :=
  (h.k2.trans (Kept.of_below (T := R) h.b3) (fun _ h => .inl h)).trans k4 fun i hi => (h.a2 i hi).imp id (fun h => h.1)
theorem ro_bad (h : Between w w2 w3 rb D R R1) (h4 : ∃ g cap o, RDAt w4 rb g cap D4 o (More R1 w3 w4)) (k4 : Kept R1 w3 w4) {c : Int} (hc : c ≠ 0) {r : DiskD × Option (LogD × List Key) × Int} (hr : r = (D4, none, c)) : ROPost w rb R r (.returned (.tuple #[.pointer none, .int .i64 c])) w4 := by
  subst hr
  exact ⟨More R1 w3 w4, fun i hi => .inl (h.a1 i hi), h.more k4.size, h4, h.kept k4, .inl ⟨rfl, hc, rfl⟩⟩
theorem ro_good (h : Between w w2 w3 rb D R R1) (hr : w3.ownsRow w2.heap.size 9 1 v (recs t).length (strs (recs t))) (h4 : ∃ g cap o, RDAt w4 rb g cap D4 o (More R1 w3 w4)) (k4 : Kept R1 w3 w4) {r : DiskD × Option (LogD × List Key) × Int} (he : r = (D4, some (fresh nA t, recs t), 0)) :
    ROPost w rb R r (.returned (.tuple #[.pointer (some ⟨w4.heap.size, 0, none⟩), .int .i64 0])) (w4.alloc (.cells #[.pointer (some ⟨rb, 0, none⟩), .string (B nA), v, .int .i64 ((recs t).length : Int), .bool false] 49)) := by
  subst he
  have hal : Below w4.heap.size w4 (w4.alloc (.cells #[.pointer (some ⟨rb, 0, none⟩), .string (B nA), v, .int .i64 ((recs t).length : Int), .bool false] 49)) := (Below.refl _ _).alloc (Nat.le_refl _) _
  have hc := cells_made w4 #[.pointer (some ⟨rb, 0, none⟩), .string (B nA), v, .int .i64 ((recs t).length : Int), .bool false] 49
  have z2 := h.k2.size
  have z3 := h.b3.size
  have z4 := k4.size
  have z5 := hal.size
  obtain ⟨g, cap, o, h5⟩ := h4
  have hold := h5.old
  refine ⟨More R1 w3 w4, fun i hi => .inl (h.a1 i hi), fun i hi => (h.more z4 i hi).imp id fun h7 => ⟨h7.1, by omega⟩, ⟨g, cap, o, h5.later hal⟩, (h.kept k4).trans (Kept.of_below (T := R) hal) (fun _ h => .inl h), .inr ⟨fresh nA t, recs t, w4.heap.size, v, rfl, rfl, rfl, by omega, hc.congr fun j hj => ?_, fun hi => absurd (hold _ hi) (Nat.lt_irrefl _), ?_, fun k hk => ⟨fun hi => ?_, fun e => ?_⟩⟩⟩
  · have : j = 0 ∨ j = 1 ∨ j = 2 ∨ j = 3 ∨ j = 4 := by have : j < 5 := hj; omega
    rcases this with rfl | rfl | rfl | rfl | rfl <;> rfl
  · have ho : w4.ownsRow w2.heap.size 9 1 v (recs t).length (strs (recs t)) := own_kept hr k4 (fun k hk ht => by have := h.old k ht; have := hr.lt k hk; omega)
    exact own_lower (ho.alloc _) z2
  · have := hr.lt k hk
    rcases hi with hi | hi
    · have := h.old k hi; omega
    · omega
  · have := hr.lt k hk
    omega
end
theorem refScan_g (l : Key) (w : World) (hl : l.length ≤ 1048576) :
    Calls Tryz.prog 31 #[.string (B l)] w fun e w' => ∃ p cap, e = .returned (.tuple #[.slice p (recs l).length cap, .int .i64 (good l : Nat), .int .i64 ((scanAll l).2.2 : Nat)]) ∧ w'.ownsRow w.heap.size 9 1 (.slice p (recs l).length cap) (recs l).length (strs (recs l)) ∧ Below w.heap.size w w' := by
  refine (refScan_calls l w hl).mono ?_
  rintro e w' ⟨v, he, h, hb⟩
  rw [good_int] at he
  obtain ⟨p, cap, rfl, -, -⟩ := own_cells h
  exact ⟨p, cap, he, h, hb⟩
theorem refScan_0 (w : World) :
    Calls Tryz.prog 31 #[.string (B [])] w fun e w' => ∃ p cap, e = .returned (.tuple #[.slice p 0 cap, .int .i64 0, .int .i64 ((scanAll []).2.2 : Nat)]) ∧ w'.ownsRow w.heap.size 9 1 (.slice p 0 cap) 0 (strs []) ∧ Below w.heap.size w w' := by
  have h := refScan_g [] w (by simp)
  rw [show good [] = 0 from rfl, show recs [] = [] from rfl] at h
  exact h
theorem at_q {w : World} {rb g cap : Nat} {D : DiskD} {F : FileD} {R : Nat → Prop} (h : RDAt w rb g cap D (some F) R) (n : Nat) : Calls Tryz.prog 29 #[.pointer (some ⟨rb, 0, none⟩), .string (B nA)] (w.drewN n) fun e w' => e = .returned (.int .i64 0) ∧ w.drewN n = w' := by
  refine (at_some (h.later ((Below.refl _ w).drewN n))).mono ?_
  rintro e w' ⟨he, hw⟩
  exact ⟨he, hw.symm⟩
theorem create_code (D : DiskD) (h : D.files = []) : createD D nA = (D, 70) ∨ (createD D nA).2 = 0 ∧ lookL (createD D nA).1.files (keyS nA) = some ⟨[], 0, true⟩ := by
  unfold createD
  rw [if_neg (by decide)]
  cases hs : still D with
  | true => left; rw [if_pos rfl]
  | false =>
    right
    rw [if_neg (by decide), h]
    refine ⟨rfl, ?_⟩
    show lookL (Dk.done _).files (keyS nA) = _
    rw [done_files]
    show lookL [(keyS nA, (⟨[], 0, true⟩ : FileD))] (keyS nA) = _
    unfold lookL
    rw [List.find?_cons, WideAt.sameKey_self (isKey nA)]
    rfl

set_option maxRecDepth 100000 in
set_option maxHeartbeats 4000000 in
theorem ROpen0_f {w : World} {rb g cap : Nat} {D : DiskD} {R : Nat → Prop} (h : RDAt w rb g cap D none R) : Calls Tryz.prog 9 #[.pointer (some ⟨rb, 0, none⟩), .string (B nA)] w (ROPost w rb R (openL D nA)) := by
  have HAT := Lib.hid (at_none h)
  have HCR := Lib.hid (RCreate_f h)
  have H := Lib.hid h
  rcases create_code D h.fs with hcc | ⟨hcc, hlk⟩
  · have HE := Lib.hid (show openL D nA = (D, none, 70) by unfold openL; rw [h.look]; simp only; rw [hcc]; rfl)
    rw [hcc] at HCR
    clear h hcc
    go_enter Tryz.func9, Tryz.ntmps9
    go_wp2_with fail
    with_reducible refine HAT.out.mono ?_
    rintro e w1 ⟨rfl, rfl⟩
    go_wp2_with fail
    with_reducible refine HCR.out.mono ?_
    rintro e w2 ⟨rfl, g2, cap2, o2, h2, k2⟩
    have HX := Lib.hid (And.intro h2 k2)
    clear h2 k2 HCR HAT
    go_wp2
    go_ret2
    rw [HE.out]
    exact ⟨_, fun i hi => .inl hi, fun i hi => hi, ⟨_, _, _, HX.out.1⟩, HX.out.2, .inl ⟨rfl, by show (70 : Int) ≠ 0; decide, rfl⟩⟩
  · have HE := Lib.hid (show openL D nA = if (syncD (createD D nA).1 nA).2 = 0 then ((syncD (createD D nA).1 nA).1, some (fresh nA [], recs []), 0) else ((syncD (createD D nA).1 nA).1, none, (syncD (createD D nA).1 nA).2) by
      unfold openL
      rw [h.look]
      simp only
      rw [if_pos hcc]
      unfold mend
      rw [if_neg (by decide), if_pos (.inl rfl)]
      rfl)
    have HLK := Lib.hid hlk
    obtain ⟨r1, hr1⟩ : ∃ r1, r1 = createD D nA := ⟨_, rfl⟩
    rw [← hr1] at HCR HE hcc HLK
    clear hr1 hlk
    obtain ⟨D1, c1⟩ := r1
    simp only at hcc
    subst hcc
    clear h
    go_enter Tryz.func9, Tryz.ntmps9
    go_wp2_with fail
    with_reducible refine HAT.out.mono ?_
    rintro e w1 ⟨rfl, rfl⟩
    go_wp2_with fail
    with_reducible refine HCR.out.mono ?_
    rintro e w2 ⟨rfl, g2, cap2, o2, h2, k2⟩
    simp only at HE HLK h2
    have ho : o2 = some ⟨[], 0, true⟩ := h2.look.symm.trans HLK.out
    subst ho
    have H2 := Lib.hid h2
    have K2 := Lib.hid k2
    have HQ := Lib.hid (fun n => at_q h2 n)
    obtain ⟨d0, d1, d2, d3, -, -, -, -⟩ := h2.cells
    have c2 : w2.cell? ⟨rb, 1, none⟩ = some (.slice (some ⟨g2, 0, none⟩) 1 cap2) := h2.c1
    clear h2 k2 HCR HAT
    simp only at d1 d2 d3
    go_wp2_with fail
    go_quiet (first | (go_at_call 29; exact quiet (HQ.out _)))
    have H3 := Lib.hid (H2.out.later ((Below.refl _ w2).drewN nq))
    have B3 := Lib.hid ((Below.refl w2.heap.size w2).drewN nq)
    clear HQ d0 d1 d2 d3 c2
    generalize w2.drewN nq = w3 at *
    go_wp2_with fail
    with_reducible refine (refScan_0 w3).mono ?_
    rintro e w4 ⟨p, pc, rfl, hr4, hb4⟩
    have HR4 := Lib.hid hr4
    have HB4 := Lib.hid hb4
    have h4 := H3.out.later hb4
    have H4 := Lib.hid h4
    have HQ := Lib.hid (fun n => at_q h4 n)
    obtain ⟨d0, d1, d2, d3, -, -, -, -⟩ := h4.cells
    have c2 : w4.cell? ⟨rb, 1, none⟩ = some (.slice (some ⟨g2, 0, none⟩) 1 cap2) := h4.c1
    replace d2 : w4.cell? ⟨g2, 2, none⟩ = some (.int .i64 0) := d2
    clear hr4 hb4 h4
    go_wp2_with fail
    go_quiet (first | (go_at_call 29; exact quiet (HQ.out _)))
    have H5 := Lib.hid (H4.out.later ((Below.refl _ w4).drewN nq))
    have B5 := Lib.hid ((Below.refl w4.heap.size w4).drewN nq)
    clear HQ d0 d1 d2 d3 c2
    generalize w4.drewN nq = w5 at *
    have HBT := Lib.hid (show Between w1 w2 w5 rb D1 R (More R w1 w2) from ⟨fun i hi => .inl hi, fun i hi => hi, ⟨_, _, _, H2.out⟩, K2.out, (B3.out.trans (HB4.out.mono B3.out.size)).trans (B5.out.mono (Nat.le_trans B3.out.size HB4.out.size))⟩)
    have HRW := Lib.hid (show w5.ownsRow w2.heap.size 9 1 (.slice p 0 pc) 0 (strs []) from own_lower (own_next HR4.out B5.out) B3.out.size)
    obtain ⟨rd, hrd⟩ : ∃ rd, rd = syncD D1 nA := ⟨_, rfl⟩
    have HC := Lib.hid (RSync_f H5.out)
    rw [← hrd] at HE HC
    clear hrd
    obtain ⟨D4, cc⟩ := rd
    go_wp2_with fail
    with_reducible refine HC.out.mono ?_
    rintro e w6 ⟨rfl, g6, cap6, o6, h66, k6⟩
    simp only at HE h66 ⊢
    have H6 := Lib.hid (show ∃ g cap o, RDAt w6 rb g cap D4 o (More _ _ w6) from ⟨_, _, _, h66⟩)
    have K6 := Lib.hid k6
    clear h66 k6 HC
    by_cases hc : cc = 0
    · subst hc
      go_wp2
      go_ret2
      exact ro_good HBT.out (t := []) HRW.out H6.out K6.out (HE.out.trans (if_pos (by first | rfl | trivial)))
    · have hcb : (cc != 0) = true := by simpa using hc
      have HNC := Lib.hid hc
      clear hc
      go_wp2
      go_ret2
      exact ro_bad HBT.out H6.out K6.out HNC.out (HE.out.trans (if_neg HNC.out))
set_option maxRecDepth 100000 in
set_option maxHeartbeats 4000000 in
theorem ROpen1_f {w : World} {rb g cap : Nat} {D : DiskD} {F : FileD} {R : Nat → Prop} (h : RDAt w rb g cap D (some F) R) (hro : D.room ≤ 1048576) : Calls Tryz.prog 9 #[.pointer (some ⟨rb, 0, none⟩), .string (B nA)] w (ROPost w rb R (openL D nA)) := by
  have HAT := Lib.hid (at_some h)
  have HO := Lib.hid (show openL D nA = ends nA F.bytes (mend D nA F.bytes false) by unfold openL; rw [h.look])
  have HLO := Lib.hid (show looseD D nA = F.bytes.length - F.sure by unfold looseD findD; rw [h.look])
  have HSH := Lib.hid (show F.bytes.length ≤ 1048576 from Nat.le_trans (total_mem (mem_of_look h.look)) (Nat.le_trans h.fine.fits hro))
  have H1 := Lib.hid h
  clear h
  go_enter Tryz.func9, Tryz.ntmps9
  go_wp2_with fail
  with_reducible refine HAT.out.mono ?_
  rintro e w1 ⟨rfl, rfl⟩
  have HQ := Lib.hid (fun n => at_q H1.out n)
  obtain ⟨d0, d1, d2, d3, -, -, -, -⟩ := H1.out.cells
  have c2 : w1.cell? ⟨rb, 1, none⟩ = some (.slice (some ⟨g, 0, none⟩) 1 cap) := H1.out.c1
  go_wp2_with fail
  go_quiet (first | (go_at_call 29; exact quiet (HQ.out _)))
  have H3 := Lib.hid (H1.out.later ((Below.refl _ w1).drewN nq))
  have B3 := Lib.hid ((Below.refl w1.heap.size w1).drewN nq)
  clear HQ d0 d1 d2 d3 c2 HAT
  generalize w1.drewN nq = w3 at *
  go_wp2_with fail
  with_reducible refine (refScan_g F.bytes w3 HSH.out).mono ?_
  rintro e w4 ⟨p, pc, rfl, hr4, hb4⟩
  have HR4 := Lib.hid hr4
  have HB4 := Lib.hid hb4
  have h4 := H3.out.later hb4
  have H4 := Lib.hid h4
  have hsh := HSH.out
  have hgl := good_le F.bytes
  have hrl := recs_len F.bytes
  clear hr4 hb4
  by_cases hg : good F.bytes < F.bytes.length
  · have HBT := Lib.hid (show Between w1 w1 w4 rb D R R from ⟨fun i hi => hi, fun i hi => .inl hi, ⟨_, _, _, H1.out⟩, Kept.refl _ _, B3.out.trans (HB4.out.mono B3.out.size)⟩)
    have HRW := Lib.hid (show w4.ownsRow w1.heap.size 9 1 (.slice p (recs F.bytes).length pc) (recs F.bytes).length (strs (recs F.bytes)) from own_lower HR4.out B3.out.size)
    have HE := Lib.hid (show openL D nA = if (cutD D nA (good F.bytes : Int)).2 = 0 then ((cutD D nA (good F.bytes : Int)).1, some (fresh nA F.bytes, recs F.bytes), 0) else ((cutD D nA (good F.bytes : Int)).1, none, (cutD D nA (good F.bytes : Int)).2) by
      rw [HO.out]; unfold mend; rw [if_pos hg]; rfl)
    have t1 : (good F.bytes : Int) < (F.bytes.length : Int) := by omega
    clear h4 hg
    obtain ⟨rd, hrd⟩ : ∃ rd, rd = cutD D nA (good F.bytes : Int) := ⟨_, rfl⟩
    have HC := Lib.hid (RCut_f H4.out (good F.bytes : Int))
    rw [← hrd] at HE HC
    clear hrd
    obtain ⟨D4, cc⟩ := rd
    go_wp2_with fail
    with_reducible refine HC.out.mono ?_
    rintro e w6 ⟨rfl, g6, cap6, o6, h66, k6⟩
    simp only at HE h66 ⊢
    have H6 := Lib.hid (show ∃ g cap o, RDAt w6 rb g cap D4 o (More _ _ w6) from ⟨_, _, _, h66⟩)
    have K6 := Lib.hid k6
    clear h66 k6 HC
    by_cases hc : cc = 0
    · subst hc
      go_wp2
      go_ret2
      exact ro_good HBT.out (t := F.bytes) HRW.out H6.out K6.out (HE.out.trans (if_pos (by first | rfl | trivial)))
    · have hcb : (cc != 0) = true := by simpa using hc
      have HNC := Lib.hid hc
      clear hc
      go_wp2
      go_ret2
      exact ro_bad HBT.out H6.out K6.out HNC.out (HE.out.trans (if_neg HNC.out))
  · have t1 : ¬ (good F.bytes : Int) < (F.bytes.length : Int) := by omega
    have HQ := Lib.hid (fun n => at_q h4 n)
    obtain ⟨d0, d1, d2, d3, -, -, -, -⟩ := h4.cells
    have c2 : w4.cell? ⟨rb, 1, none⟩ = some (.slice (some ⟨g, 0, none⟩) 1 cap) := h4.c1
    by_cases hl : 0 < F.bytes.length - F.sure
    · have HE := Lib.hid (show openL D nA = if (syncD D nA).2 = 0 then ((syncD D nA).1, some (fresh nA F.bytes, recs F.bytes), 0) else ((syncD D nA).1, none, (syncD D nA).2) by
        rw [HO.out]; unfold mend; rw [if_neg hg, if_pos (.inr (by rw [HLO.out]; exact hl))]; rfl)
      have hls : F.bytes.length - F.sure ≤ 1048576 := by omega
      generalize hZ : F.bytes.length - F.sure = zl at *
      have t2 : (0 : Int) < (zl : Int) := by omega
      have t3 : decide ((0 : Int) < (zl : Int)) = true := by simpa using t2
      have t4 : decide (0 < zl) = true := by simpa using hl
      clear h4 hg hZ
      go_wp2_with fail
      go_quiet (first | (go_at_call 29; exact quiet (HQ.out _)))
      have H5 := Lib.hid (H4.out.later ((Below.refl _ w4).drewN nq))
      have B5 := Lib.hid ((Below.refl w4.heap.size w4).drewN nq)
      clear HQ d0 d1 d2 d3 c2
      generalize w4.drewN nq = w5 at *
      have HBT := Lib.hid (show Between w1 w1 w5 rb D R R from ⟨fun i hi => hi, fun i hi => .inl hi, ⟨_, _, _, H1.out⟩, Kept.refl _ _, (B3.out.trans (HB4.out.mono B3.out.size)).trans (B5.out.mono (Nat.le_trans B3.out.size HB4.out.size))⟩)
      have HRW := Lib.hid (show w5.ownsRow w1.heap.size 9 1 (.slice p (recs F.bytes).length pc) (recs F.bytes).length (strs (recs F.bytes)) from own_lower (own_next HR4.out B5.out) B3.out.size)
      obtain ⟨rd, hrd⟩ : ∃ rd, rd = syncD D nA := ⟨_, rfl⟩
      have HC := Lib.hid (RSync_f H5.out)
      rw [← hrd] at HE HC
      clear hrd
      obtain ⟨D4, cc⟩ := rd
      go_wp2_with fail
      with_reducible refine HC.out.mono ?_
      rintro e w6 ⟨rfl, g6, cap6, o6, h66, k6⟩
      simp only at HE h66 ⊢
      have H6 := Lib.hid (show ∃ g cap o, RDAt w6 rb g cap D4 o (More _ _ w6) from ⟨_, _, _, h66⟩)
      have K6 := Lib.hid k6
      clear h66 k6 HC
      by_cases hc : cc = 0
      · subst hc
        go_wp2
        go_ret2
        exact ro_good HBT.out (t := F.bytes) HRW.out H6.out K6.out (HE.out.trans (if_pos (by first | rfl | trivial)))
      · have hcb : (cc != 0) = true := by simpa using hc
        have HNC := Lib.hid hc
        clear hc
        go_wp2
        go_ret2
        exact ro_bad HBT.out H6.out K6.out HNC.out (HE.out.trans (if_neg HNC.out))
    · have HE := Lib.hid (show openL D nA = (D, some (fresh nA F.bytes, recs F.bytes), 0) by
        rw [HO.out]; unfold mend; rw [if_neg hg, if_neg (by rw [HLO.out]; rintro (h | h); cases h; exact hl h)]; rfl)
      have hz : F.bytes.length - F.sure = 0 := by omega
      rw [hz] at d2
      replace d2 : w4.cell? ⟨g, 2, none⟩ = some (.int .i64 0) := d2
      clear h4 hg hl hz
      go_wp2_with fail
      go_quiet (first | (go_at_call 29; exact quiet (HQ.out _)))
      have H5 := Lib.hid (H4.out.later ((Below.refl _ w4).drewN nq))
      have B5 := Lib.hid ((Below.refl w4.heap.size w4).drewN nq)
      clear HQ d0 d1 d2 d3 c2
      generalize w4.drewN nq = w5 at *
      have HBT := Lib.hid (show Between w1 w1 w5 rb D R R from ⟨fun i hi => hi, fun i hi => .inl hi, ⟨_, _, _, H1.out⟩, Kept.refl _ _, (B3.out.trans (HB4.out.mono B3.out.size)).trans (B5.out.mono (Nat.le_trans B3.out.size HB4.out.size))⟩)
      have HRW := Lib.hid (show w5.ownsRow w1.heap.size 9 1 (.slice p (recs F.bytes).length pc) (recs F.bytes).length (strs (recs F.bytes)) from own_lower (own_next HR4.out B5.out) B3.out.size)
      go_wp2
      go_ret2
      exact ro_good HBT.out HRW.out ⟨_, _, _, H5.out.grow⟩ (Kept.refl _ _) HE.out
theorem ROpen_f {w : World} {rb g cap : Nat} {D : DiskD} {o : Option FileD} {R : Nat → Prop} (h : RDAt w rb g cap D o R) (hro : D.room ≤ 1048576) : Calls Tryz.prog 9 #[.pointer (some ⟨rb, 0, none⟩), .string (B nA)] w (ROPost w rb R (openL D nA)) := by
  cases o with
  | none => exact ROpen0_f h
  | some F => exact ROpen1_f h hro

end Go.Proofs.YtpiaplgbpjgjiaaGreatDoor.Lp
