/-
  Logs (layer 8): Open where it is known what it answers; the document's example, walked. Condition: the sum's table is laid.
-/
import Derived.Test.YtmejdcnnpenaaaaGreatDoorZLgPlain
open Go Go.RowKit
namespace Go.Proofs.YtmejdcnnpenaaaaGreatDoor.Lg
open Base Mp Dk Frame

theorem LOpen_ok {w0 w : World} {b : Nat} {D : DiskD} {T : Nat → Prop} (h : DX w0 w b D T) (hT : Crc.TabOk w0) (n : Key) (hn : n.length ≤ maxLen) (hro : D.room ≤ 1048576) {D' : DiskD} {L : LogD} {rs : List Key} (he : openL D n = (D', some (L, rs), 0)) :
    Calls Tryz.prog 31 #[.pointer (some ⟨b, 0, none⟩), .string (B n)] w fun e w' => ∃ lb p cap T', e = .returned (.tuple #[.pointer (some ⟨lb, 0, none⟩), .slice p rs.length cap, .int .i64 0]) ∧ LX w0 w' b lb D' L T' ∧ Kept T w w' ∧ (∀ i, T' i → T i ∨ w.heap.size ≤ i) ∧ w.heap.size ≤ lb ∧
      ∀ j (hj : j < rs.length), ∃ g, p = some ⟨g, 0, none⟩ ∧ w.heap.size ≤ g ∧ g < w'.heap.size ∧ ¬ T' g ∧ g ≠ lb ∧ w'.cell? ⟨g, j, none⟩ = some (.string (B rs[j])) := by
  refine (LOpen_f h hT n hn hro).mono ?_
  rw [he]
  rintro e w' ⟨T', h1, h2, h3, ⟨h4, _⟩ | ⟨L2, rs2, lb, v, h4, h5, h6, h7, h8, h9, h10, h11⟩⟩
  · cases h4
  · simp only [Option.some.injEq, Prod.mk.injEq] at h4
    obtain ⟨rfl, rfl⟩ := h4
    obtain ⟨p, cap, rfl, hl, hc⟩ := own_cells h10
    refine ⟨lb, p, cap, T', h6, ⟨h2, h7, Nat.le_trans h.below.size h8, h9⟩, h3, h1, h8, fun j hj => ?_⟩
    obtain ⟨g, e1, e2, e3, e4⟩ := hc j (by rw [hl]; exact hj)
    have h12 := h11 g (by rw [e1]; rfl)
    exact ⟨g, e1, e2, e3, h12.1, h12.2, by rw [e4, strs_at _ _ hj]⟩
theorem row_made (W : World) (rs : List Key) : RowArg (W.alloc (.cells (strs rs).toArray 9)) (some ⟨W.heap.size, 0, none⟩) (strs rs) := fun j hj => by
  have hc := cells_made W (strs rs).toArray 9 j (by simpa using hj)
  refine ⟨W.heap.size, 0, rfl, by rw [alloc_more]; omega, ?_⟩
  rw [Nat.zero_add, hc.1]
  simp [hj]
def nA : Key := [97]
theorem mayA : mayName nA = true := by decide
def DL0 (r : Nat) : DiskD := ⟨r, [], false, 0⟩
theorem fine0 {r : Nat} (h : r ≤ 4194304) : Fine (DL0 r) := ⟨by simp [DL0], h, by simp [DL0, total], fun p hp => (by cases hp), fun p hp => (by cases hp), List.Pairwise.nil, (by show (0 : Nat) < 9223372036854775808; decide)⟩
theorem len18 : (puts [[97], [98]]).length = 18 := by simp [puts_cons, puts_nil, put_length]
theorem len9 (c : UInt8) : (puts [[c]]).length = 9 := by simp [puts_cons, puts_nil, put_length]
/-- The example, on plain data. -/
theorem works_plain : ∃ D1 D2 D3 D4 D5, openL (DL0 1000) nA = (D1, some (⟨nA, 0, 0, 0, false⟩, []), 0) ∧ putRs D1 ⟨nA, 0, 0, 0, false⟩ [[97], [98]] = (D2, ⟨nA, 18, 2, 0, false⟩, 0) ∧ keepL D2 ⟨nA, 18, 2, 0, false⟩ = (D3, ⟨nA, 18, 2, 2, false⟩, 0) ∧
    putRs D3 ⟨nA, 18, 2, 2, false⟩ [[99]] = (D4, ⟨nA, 27, 3, 2, false⟩, 0) ∧ openL (crashD D4 []) nA = (D5, some (⟨nA, 18, 2, 2, false⟩, [[97], [98]]), 0) ∧ D1.room = 1000 ∧ D2.room = 1000 ∧ D3.room = 1000 ∧ D4.room = 1000 := by
  obtain ⟨D1, h1, h2, h3, h4, -⟩ := open_absent (D := DL0 1000) (n := nA) rfl mayA rfl (by decide)
  obtain ⟨f1, l1⟩ := h4 (fine0 (by decide))
  have w1 : Well D1 ⟨nA, 0, 0, 0, false⟩ [] 0 false := ⟨h3.fused, h2, rfl, rfl, rfl⟩
  obtain ⟨D2, p1, w2, e2, g2, -⟩ := put_well w1 [[97], [98]] (by decide) (by rw [len18, l1]; decide)
  obtain ⟨f2, l2⟩ := g2 f1 (Nat.le_refl _)
  rw [len18] at p1 w2 l2
  obtain ⟨D3, p3, w3, e3, g3, -⟩ := keep_well w2
  obtain ⟨f3, l3⟩ := g3 f2
  obtain ⟨D4, p4, w4, e4, g4, -⟩ := put_well w3 [[99]] (by decide) (by
    have h : left (DL0 1000) = 1000 := rfl
    rw [len9]; omega)
  obtain ⟨f4, l4⟩ := g4 f3 (Nat.le_refl _)
  have hcr := crash_nil f4 w4.file rfl
  simp only at hcr
  rw [show ([] ++ [[97], [98]] : List Key) = [[97], [98]] from rfl, puts_take] at hcr
  obtain ⟨D5, f5, p5, -⟩ := open_good (D := crashD D4 []) (n := nA) (rs := [[97], [98]]) rfl hcr (Nat.le_refl _) (by
    intro r hr
    rcases List.mem_cons.1 hr with rfl | hr
    · decide
    · rw [List.mem_singleton.1 hr]; decide)
  rw [len18] at p5
  refine ⟨D1, D2, D3, D4, D5, h1, p1, p3, ?_, p5, h3.room, e2.room.trans h3.room, e3.room.trans (e2.room.trans h3.room), e4.room.trans (e3.room.trans (e2.room.trans h3.room))⟩
  rw [len9] at p4
  exact p4
end Go.Proofs.YtmejdcnnpenaaaaGreatDoor.Lg
