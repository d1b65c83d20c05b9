/-
  Logs (layer 8): Open where it is known what it answers; the document's example, walked. Condition: the sum's table is laid.
-/
import Derived.Test.YtpiaplgbpjgjiaaGreatDoorZLgPlain
open Go Go.RowKit
namespace Go.Proofs.YtpiaplgbpjgjiaaGreatDoor.Lg
open Base Mp Dk Frame

theorem LOpen_ok {w0 w : World} {b : Nat} {D : DiskD} {T : Nat → Prop} (h : DX w0 w b D T) (hT : Crc.TabOk w0) (n : Key) (hn : n.length ≤ maxLen) (hro : D.room ≤ 1048576) {D' : DiskD} {L : LogD} {rs : List Key} (he : openL D n = (D', some (L, rs), 0)) :
    Calls Tryz.prog 8 #[.pointer (some ⟨b, 0, none⟩), .string (B n)] w fun e w' => ∃ lb p cap T', e = .returned (.tuple #[.pointer (some ⟨lb, 0, none⟩), .slice p rs.length cap, .int .i64 0]) ∧ LX w0 w' b lb D' L T' ∧ Kept T w w' ∧ (∀ i, T' i → T i ∨ w.heap.size ≤ i) ∧ w.heap.size ≤ lb ∧
      ∀ j (hj : j < rs.length), ∃ g, p = some ⟨g, 0, none⟩ ∧ w.heap.size ≤ g ∧ g < w'.heap.size ∧ ¬ T' g ∧ g ≠ lb ∧ w'.cell? ⟨g, j, none⟩ = some (.string (B rs[j])) := by
  refine (LOpen_f h hT n hn hro).mono ?_
  rw [he]
  rintro e w' ⟨T', h1, h2, h3, ⟨h4, _⟩ | ⟨L2, rs2, lb, v, h4, h5, h6, h7, h8, h9, h10, h11⟩⟩
  · cases h4
  · simp only [Option.some.injEq, Prod.mk.injEq] at h4
    obtain ⟨rfl, rfl⟩ := h4
    obtain ⟨p, cap, rfl, hl, hc⟩ := own_cells h10
    refine ⟨lb, p, cap, T', h6, ⟨h2, h7, Nat.le_trans h.below.size h8, h9⟩, h3, h1, h8, fun j hj => ?_⟩
    obtain ⟨g, e1, e2, e3, e4⟩ := hc j (by rw [hl]; exact hj)
    have h12 := h11 g (by rw [e1]; rfl)
    exact ⟨g, e1, e2, e3, h12.1, h12.2, by rw [e4, strs_at _ _ hj]⟩
theorem row_made (W : World) (rs : List Key) : RowArg (W.alloc (.cells (strs rs).toArray 9)) (some ⟨W.heap.size, 0, none⟩) (strs rs) := fun j hj => by
  have hc := cells_made W (strs rs).toArray 9 j (by simpa using hj)
  refine ⟨W.heap.size, 0, rfl, by rw [alloc_more]; omega, ?_⟩
  rw [Nat.zero_add, hc.1]
  simp [hj]
def nA : Key := [97]
theorem mayA : mayName nA = true := by decide
def DL0 (r : Nat) : DiskD := ⟨r, [], false, 0⟩
theorem fine0 {r : Nat} (h : r ≤ 4194304) : Fine (DL0 r) := ⟨by simp [DL0], h, by simp [DL0, total], fun p hp => (by cases hp), fun p hp => (by cases hp), List.Pairwise.nil, (by show (0 : Nat) < 9223372036854775808; decide)⟩
theorem len18 : (puts [[97], [98]]).length = 18 := by simp [puts_cons, puts_nil, put_length]
theorem len9 (c : UInt8) : (puts [[c]]).length = 9 := by simp [puts_cons, puts_nil, put_length]
/-- The example, on plain data. -/
theorem works_plain : ∃ D1 D2 D3 D4 D5, openL (DL0 1000) nA = (D1, some (⟨nA, 0, 0, 0, false⟩, []), 0) ∧ putRs D1 ⟨nA, 0, 0, 0, false⟩ [[97], [98]] = (D2, ⟨nA, 18, 2, 0, false⟩, 0) ∧ keepL D2 ⟨nA, 18, 2, 0, false⟩ = (D3, ⟨nA, 18, 2, 2, false⟩, 0) ∧
    putRs D3 ⟨nA, 18, 2, 2, false⟩ [[99]] = (D4, ⟨nA, 27, 3, 2, false⟩, 0) ∧ openL (crashD D4 []) nA = (D5, some (⟨nA, 18, 2, 2, false⟩, [[97], [98]]), 0) ∧ D1.room = 1000 ∧ D2.room = 1000 ∧ D3.room = 1000 ∧ D4.room = 1000 := by
  obtain ⟨D1, h1, h2, h3, h4, -⟩ := open_absent (D := DL0 1000) (n := nA) rfl mayA rfl (by decide)
  obtain ⟨f1, l1⟩ := h4 (fine0 (by decide))
  have w1 : Well D1 ⟨nA, 0, 0, 0, false⟩ [] 0 false := ⟨h3.fused, h2, rfl, rfl, rfl⟩
  obtain ⟨D2, p1, w2, e2, g2, -⟩ := put_well w1 [[97], [98]] (by decide) (by rw [len18, l1]; decide)
  obtain ⟨f2, l2⟩ := g2 f1 (Nat.le_refl _)
  rw [len18] at p1 w2 l2
  obtain ⟨D3, p3, w3, e3, g3, -⟩ := keep_well w2
  obtain ⟨f3, l3⟩ := g3 f2
  obtain ⟨D4, p4, w4, e4, g4, -⟩ := put_well w3 [[99]] (by decide) (by
    have h : left (DL0 1000) = 1000 := rfl
    rw [len9]; omega)
  obtain ⟨f4, l4⟩ := g4 f3 (Nat.le_refl _)
  have hcr := crash_nil f4 w4.file rfl
  simp only at hcr
  rw [show ([] ++ [[97], [98]] : List Key) = [[97], [98]] from rfl, puts_take] at hcr
  obtain ⟨D5, f5, p5, -⟩ := open_good (D := crashD D4 []) (n := nA) (rs := [[97], [98]]) rfl hcr (Nat.le_refl _) (by
    intro r hr
    rcases List.mem_cons.1 hr with rfl | hr
    · decide
    · rw [List.mem_singleton.1 hr]; decide)
  rw [len18] at p5
  refine ⟨D1, D2, D3, D4, D5, h1, p1, p3, ?_, p5, h3.room, e2.room.trans h3.room, e3.room.trans (e2.room.trans h3.room), e4.room.trans (e3.room.trans (e2.room.trans h3.room))⟩
  rw [len9] at p4
  exact p4
set_option maxRecDepth 100000 in
set_option maxHeartbeats 4000000 in
theorem LWorks_f (w : World) (hT : Crc.TabOk w) : Calls Tryz.prog 5 #[] w fun e w' => e = .returned (.bool true) ∧ Below w.heap.size w w' := by
  obtain ⟨D1, D2, D3, D4, D5, p1, p2, p3, p4, p5, r1, r2, r3, r4⟩ := works_plain
  have HT := Lib.hid hT
  have HN := Lib.hid (show Calls Tryz.prog 6 #[.int .i64 1000] w fun e w' => ∃ b, e = .returned (.tuple #[.pointer (some ⟨b, 0, none⟩), .int .i64 0]) ∧ DW w w' b ⟨1000, [], false, 0⟩ from DW.new (r := 1000) (by decide) (Below.refl w.heap.size w))
  go_enter Tryz.func5, Tryz.ntmps5
  go_wp2_with fail
  with_reducible refine HN.out.mono ?_
  rintro e w1 ⟨b, rfl, h1⟩
  obtain ⟨T1, h1⟩ := dx_of h1
  have HO := Lib.hid (show Calls Tryz.prog 8 #[.pointer (some ⟨b, 0, none⟩), .string ⟨#[97]⟩] w1 _ from LOpen_ok h1 HT.out nA (by decide) (by decide) p1)
  clear h1 HN p1
  go_wp2_with fail
  with_reducible refine HO.out.mono ?_
  rintro e w2 ⟨lb, pr, cr, T2, rfl, h2, -, -, -, -⟩
  have H2 := Lib.hid (h2.later ((Below.refl w2.heap.size w2).alloc (Nat.le_refl _) (.cells (strs [[97], [98]]).toArray 9)))
  have HA := Lib.hid (show Calls Tryz.prog 10 #[.pointer (some ⟨lb, 0, none⟩), .slice (some ⟨w2.heap.size, 0, none⟩) 2 2] (w2.alloc (.cells #[.string ⟨#[97]⟩, .string ⟨#[98]⟩] 9)) (LPost w (w2.alloc (.cells #[.string ⟨#[97]⟩, .string ⟨#[98]⟩] 9)) b lb T2 (D2, ⟨nA, 18, 2, 0, false⟩, 0)) from by
    have h := LAppend_f H2.out HT.out (some ⟨w2.heap.size, 0, none⟩) 2 [[97], [98]] ⟨row_made w2 _, by
      intro r hr
      rcases List.mem_cons.1 hr with rfl | hr
      · decide
      · rw [List.mem_singleton.1 hr]; decide, by rw [len18]; decide, by decide, by decide, by decide⟩
    rw [p2] at h
    exact h)
  clear h2 HO H2 p2
  go_wp2_with fail
  with_reducible refine HA.out.mono ?_
  rintro e w3 ⟨rfl, h3, -⟩
  simp only at h3
  generalize More T2 _ w3 = T3 at h3
  have HS := Lib.hid (show Calls Tryz.prog 12 #[.pointer (some ⟨lb, 0, none⟩)] w3 (LPost w w3 b lb T3 (D3, ⟨nA, 18, 2, 2, false⟩, 0)) from by
    have h := LSync_f h3 (by show nA.length ≤ maxLen; decide)
    rw [p3] at h
    exact h)
  clear h3 HA p3
  go_wp2_with fail
  with_reducible refine HS.out.mono ?_
  rintro e w4 ⟨rfl, h4, -⟩
  simp only at h4
  generalize More T3 _ w4 = T4 at h4
  have H4 := Lib.hid (h4.later ((Below.refl w4.heap.size w4).alloc (Nat.le_refl _) (.cells (strs [[99]]).toArray 9)))
  have HA := Lib.hid (show Calls Tryz.prog 10 #[.pointer (some ⟨lb, 0, none⟩), .slice (some ⟨w4.heap.size, 0, none⟩) 1 1] (w4.alloc (.cells #[.string ⟨#[99]⟩] 9)) (LPost w (w4.alloc (.cells #[.string ⟨#[99]⟩] 9)) b lb T4 (D4, ⟨nA, 27, 3, 2, false⟩, 0)) from by
    have h := LAppend_f H4.out HT.out (some ⟨w4.heap.size, 0, none⟩) 1 [[99]] ⟨row_made w4 _, by
      intro r hr
      rw [List.mem_singleton.1 hr]; decide, by rw [len9]; decide, by decide, by decide, by decide⟩
    rw [p4] at h
    exact h)
  clear h4 HS H4 p4
  go_wp2_with fail
  with_reducible refine HA.out.mono ?_
  rintro e w5 ⟨rfl, h5, -⟩
  simp only at h5
  generalize More T4 _ w5 = T5 at h5
  have H5 := Lib.hid h5
  have HC := Lib.hid (LCount_f h5.log)
  have HU := Lib.hid (LSure_f h5.log)
  clear h5 HA
  go_wp2_with fail
  with_reducible refine HC.out.mono ?_
  rintro e w6 ⟨rfl, rfl⟩
  go_wp2_with fail
  with_reducible refine HU.out.mono ?_
  rintro e w6 ⟨rfl, rfl⟩
  have HCR := Lib.hid (show Calls Tryz.prog 22 #[.pointer (some ⟨b, 0, none⟩), .slice none 0 0] w5 fun e w' => e = .returned (.int .i64 0) ∧ DX w w' b (crashD D4 []) (More T5 w5 w') ∧ Kept T5 w5 w' from H5.out.dx.op (Crash_f H5.out.dx.dk none [] 0 (fun j hj => by simp at hj) (fun x hx => by simp at hx) (Nat.le_refl _) (by decide) (fun a ha => by cases ha)))
  go_wp2_with fail
  with_reducible refine HCR.out.mono ?_
  rintro e w7 ⟨rfl, h7, k7⟩
  have H7 := Lib.hid (H5.out.disk h7 k7)
  generalize More T5 w5 w7 = T7 at H7 h7
  have HO := Lib.hid (show Calls Tryz.prog 8 #[.pointer (some ⟨b, 0, none⟩), .string ⟨#[97]⟩] w7 _ from LOpen_ok h7 HT.out nA (by decide) (by show D4.room ≤ 1048576; rw [r4]; decide) p5)
  clear h7 k7 HC HU HCR H5 p5
  go_wp2_with fail
  with_reducible refine HO.out.mono ?_
  rintro e w8 ⟨lb2, pr2, cr2, T8, rfl, h8, k8, -, -, hrow⟩
  obtain ⟨g, rfl, _, _, _, _, hc0⟩ := hrow 0 (by decide)
  obtain ⟨g2, hg2, _, _, _, _, hc1⟩ := hrow 1 (by decide)
  injection hg2 with hg2
  injection hg2 with hg2
  subst hg2
  have hc0' : w8.cell? ⟨g, 0, none⟩ = some (.string ⟨#[97]⟩) := hc0
  have hc1' : w8.cell? ⟨g, 1, none⟩ = some (.string ⟨#[98]⟩) := hc1
  have HL := Lib.hid (LLen_f (w := w8) (lb := lb) (H7.out.log.kept k8 (H7.out.log.lt (by omega)) H7.out.far))
  have H8 := Lib.hid h8.dx.below
  clear hrow hc0 hc1 h8 k8 H7 HO
  go_wp2_with fail
  with_reducible refine HL.out.mono ?_
  rintro e w9 ⟨rfl, rfl⟩
  go_wp2
  go_ret
  exact ⟨rfl, H8.out⟩
end Go.Proofs.YtpiaplgbpjgjiaaGreatDoor.Lg
