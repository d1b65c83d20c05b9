/-
  Logs (layer 8): the walk of Sync. Condition: the name is no longer than a string may be.
-/
import Derived.Test.YtpiaplgbpjgjiaaDoorLgSmall
import Derived.Deep.RegionHeld3
open Go Go.RowKit
namespace Go.Proofs.YtpiaplgbpjgjiaaDoor.Lg
open Base Mp Dk Frame

theorem more_self (T : Nat → Prop) (w : World) : More T w w = T := by
  funext i
  apply propext
  constructor
  · rintro (h | h)
    · exact h
    · omega
  · exact .inl
theorem told_name (L : LogD) (c : Int) : (toldL L c).name = L.name := by unfold toldL; split <;> rfl
theorem told_cells {w : World} {lb b : Nat} {L : LogD} {c : Int} (h : CellsAt w lb 6 (logCell b (toldL L c))) : w.cell? ⟨lb, 0, none⟩ = some (.pointer (some ⟨b, 0, none⟩)) ∧ w.cell? ⟨lb, 1, none⟩ = some (.string (B L.name)) := by
  refine ⟨(h 0 (by omega)).1, ?_⟩
  have := (h 1 (by omega)).1
  simp only [logCell, told_name] at this
  exact this
theorem told_zero (L : LogD) {c : Int} (h : c = 0) : toldL L c = L := by rw [h]; exact told_ok L
theorem two_kept {T : Nat → Prop} {lb : Nat} {w w3 w4 : World} (k3 : Kept T w w3) (k4 : Kept (fun i => i = lb) w3 w4) : Kept (fun i => T i ∨ i = lb) w w4 :=
  (k3.mono fun _ hi => .inl hi).trans (k4.mono (T' := fun i => T i ∨ i = lb) fun _ hi => .inr hi) (fun _ h => .inl h)
theorem undrew {T : Nat → Prop} {w w' : World} (h : Kept T w.drew w') : Kept T w w' := ⟨h.os, h.tape, h.output, h.size, h.block⟩
theorem DX.widen {w0 w w1 w' : World} {b : Nat} {D : DiskD} {T : Nat → Prop} (h : DX w0 w' b D (More T w w1)) (h1 : w1.heap.size ≤ w'.heap.size) (h2 : w0.heap.size ≤ w.heap.size) : DX w0 w' b D (More T w w') := by
  have ho := h.own
  have hold := h.old
  obtain ⟨hb, ⟨tag, blk, bm, hd⟩, _⟩ := h
  refine ⟨hb, ⟨tag, blk, bm, hd.wide (fun i hi => ?_) (fun i hi => ?_)⟩, fun i hi => ?_⟩
  · rcases hi with hi | hi
    · exact .inl hi
    · exact .inr ⟨hi.1, by omega⟩
  · rcases hi with hi | hi
    · exact hold i (.inl hi)
    · exact hi.2
  · rcases hi with hi | hi
    · exact ho i (.inl hi)
    · omega
theorem LX.widen {w0 w w1 w' : World} {b lb : Nat} {D : DiskD} {L : LogD} {T : Nat → Prop} (h : LX w0 w' b lb D L (More T w w1)) (h1 : w1.heap.size ≤ w'.heap.size) (h2 : w0.heap.size ≤ w.heap.size) (h3 : lb < w.heap.size) : LX w0 w' b lb D L (More T w w') :=
  ⟨h.dx.widen h1 h2, h.log, h.new, fun hi => by
    rcases hi with hi | hi
    · exact h.far (.inl hi)
    · omega⟩
theorem LX.wide {w0 w' : World} {b lb : Nat} {D : DiskD} {L : LogD} {T1 T2 : Nat → Prop} (h : LX w0 w' b lb D L T1) (h1 : ∀ i, T1 i → T2 i) (h2 : ∀ i, T2 i → w0.heap.size ≤ i ∧ i < w'.heap.size ∧ i ≠ lb) : LX w0 w' b lb D L T2 := by
  obtain ⟨⟨hb, ⟨tag, blk, bm, hd⟩, _⟩, hl, hn, _⟩ := h
  exact ⟨⟨hb, ⟨tag, blk, bm, hd.wide h1 (fun i hi => (h2 i hi).2.1)⟩, fun i hi => (h2 i hi).1⟩, hl, hn, fun hi => (h2 lb hi).2.2 rfl⟩
/-- A log's call: its answer, its state, and what it leaves. -/
def LPost (w0 w : World) (b lb : Nat) (T : Nat → Prop) (r : DiskD × LogD × Int) (e : Ending) (w' : World) : Prop := e = .returned (.int .i64 r.2.2) ∧ LX w0 w' b lb r.1 r.2.1 (More T w w') ∧ Kept (fun i => T i ∨ i = lb) w w'
set_option maxRecDepth 100000 in
set_option maxHeartbeats 2000000 in
theorem LSync_f {w0 w : World} {b lb : Nat} {D : DiskD} {L : LogD} {T : Nat → Prop} (h : LX w0 w b lb D L T) (hn : L.name.length ≤ maxLen) : Calls Tryd.prog 11 #[.pointer (some ⟨lb, 0, none⟩)] w (LPost w0 w b lb T (keepL D L)) := by
  have HT := Lib.hid (There_y h.log)
  have c0 := (h.log 0 (by omega)).1
  have c1 := (h.log 1 (by omega)).1
  have c5 := (h.log 5 (by omega)).1
  simp only [logCell] at c0 c1 c5
  have HX := Lib.hid h
  have hlt := lt_of_cell c0
  have HF := Lib.hid h.far
  by_cases hb : L.broken = true
  · have HE := Lib.hid (show keepL D L = (D, L, 3) by unfold keepL; rw [if_pos hb])
    rw [hb] at c5
    clear h hb
    go_enter Tryd.func11, Tryd.ntmps11
    go_wp2_with fail
    with_reducible refine HT.out.mono ?_
    rintro e w1 ⟨rfl, rfl⟩
    go_wp2
    go_ret
    rw [HE.out]
    exact ⟨rfl, by rw [more_self]; exact HX.out, Kept.refl _ _⟩
  have hb2 : L.broken = false := by simpa using hb
  rw [hb2] at c5
  have HS := Lib.hid ((h.later ((Below.refl w.heap.size w).drew)).dx.op (Sync_f (h.later ((Below.refl w.heap.size w).drew)).dx.dk L.name hn))
  by_cases hc : (syncD D L.name).2 = 0
  · have HE := Lib.hid (show keepL D L = ((syncD D L.name).1, { L with sure := L.count }, 0) by unfold keepL; rw [if_neg hb, if_pos hc])
    rw [hc] at HS
    clear h hb hb2 hc
    go_enter Tryd.func11, Tryd.ntmps11
    go_wp2_with fail
    with_reducible refine HT.out.mono ?_
    rintro e w1 ⟨rfl, rfl⟩
    go_wp2_with fail
    go_region_held3 (fun W => W.cell? ⟨lb, 0, none⟩ = some (.pointer (some ⟨b, 0, none⟩)) ∧ W.cell? ⟨lb, 1, none⟩ = some (.string (B L.name))) (first | go_keep | exact told_cells h4 | exact ⟨cell_kept (w := w.drew) c0 k3 HF.out, cell_kept (w := w.drew) c1 k3 HF.out⟩)
      (first
      | (go_at_call 27; with_reducible refine HS.out.mono ?_; rintro e w3 ⟨rfl, h3, k3⟩)
      | (go_at_call 31; with_reducible refine (Told_f (HX.out.disk h3 (undrew k3)).log _).mono ?_; rintro e w4 ⟨rfl, h4, k4⟩))
    rw [told_ok] at h4
    have H3 := Lib.hid ((HX.out.disk h3 (undrew k3)).turn k4 h4)
    have K4 := Lib.hid (two_kept (undrew k3) k4)
    have Z4 := Lib.hid (show w3.heap.size ≤ w4.heap.size from k4.size)
    have d3 := (h4 3 (by omega)).1
    have d4 := (h4 4 (by omega)).1
    have e4 := (h4 4 (by omega)).2
    simp only [logCell] at d3 d4
    have hl4 := lt_of_cell d4
    clear h3 k3 h4 k4 c0 c1 c5 HS HT
    go_wp2_with fail
    go_ret
    rw [HE.out]
    have hk : Kept (fun i => i = lb) w4 (w4.setCell ⟨lb, 4, none⟩ (.int .i64 (L.count : Int))) := Kept.setCell (T := fun i => i = lb) (Kept.refl _ w4) (.inl rfl) _
    have h5 := H3.out.turn hk (L' := { L with sure := L.count }) ((CellsAt.set H3.out.log (i := 4) (by omega) (.int .i64 (L.count : Int))).congr fun j hj => by
      have : j = 0 ∨ j = 1 ∨ j = 2 ∨ j = 3 ∨ j = 4 ∨ j = 5 := by omega
      rcases this with rfl | rfl | rfl | rfl | rfl | rfl <;> rfl)
    exact ⟨rfl, h5.widen (Nat.le_trans Z4.out hk.size) HX.out.dx.below.size hlt, K4.out.trans (hk.mono (T' := fun i => T i ∨ i = lb) fun _ hi => .inr hi) (fun _ h => .inl h)⟩
  · have HE := Lib.hid (show keepL D L = ((syncD D L.name).1, toldL L (syncD D L.name).2, (syncD D L.name).2) by unfold keepL; rw [if_neg hb, if_neg hc])
    generalize hcc : (syncD D L.name).2 = cc at *
    have hcb : (cc != 0) = true := by simpa using hc
    clear h hb hb2 hc hcc
    go_enter Tryd.func11, Tryd.ntmps11
    go_wp2_with fail
    with_reducible refine HT.out.mono ?_
    rintro e w1 ⟨rfl, rfl⟩
    go_wp2_with fail
    go_region_held3 (fun W => W.cell? ⟨lb, 0, none⟩ = some (.pointer (some ⟨b, 0, none⟩)) ∧ W.cell? ⟨lb, 1, none⟩ = some (.string (B L.name))) (first | go_keep | exact told_cells h4 | exact ⟨cell_kept (w := w.drew) c0 k3 HF.out, cell_kept (w := w.drew) c1 k3 HF.out⟩)
      (first
      | (go_at_call 27; with_reducible refine HS.out.mono ?_; rintro e w3 ⟨rfl, h3, k3⟩)
      | (go_at_call 31; with_reducible refine (Told_f (HX.out.disk h3 (undrew k3)).log _).mono ?_; rintro e w4 ⟨rfl, h4, k4⟩))
    have H3 := Lib.hid ((HX.out.disk h3 (undrew k3)).turn k4 h4)
    have K4 := Lib.hid (two_kept (undrew k3) k4)
    have Z4 := Lib.hid (show w3.heap.size ≤ w4.heap.size from k4.size)
    clear h3 k3 h4 k4 c0 c1 c5 HS HT
    go_wp2_with fail
    go_ret
    rw [HE.out]
    exact ⟨rfl, H3.out.widen Z4.out HX.out.dx.below.size hlt, K4.out⟩
end Go.Proofs.YtpiaplgbpjgjiaaDoor.Lg
