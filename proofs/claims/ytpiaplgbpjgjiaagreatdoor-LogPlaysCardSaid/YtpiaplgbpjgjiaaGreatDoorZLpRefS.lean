/-
  The document's disk (layer 7) with one file at most, "a": the walk of Spoil. Condition: the disk is the call's own.
-/
import Derived.Test.YtpiaplgbpjgjiaaGreatDoorZLpRefB
open Go Go.RowKit
namespace Go.Proofs.YtpiaplgbpjgjiaaGreatDoor.Lp
open Base Mp Dk Frame Lg

theorem spoil_some {D : DiskD} {F : FileD} {m : Int} {y : UInt8} (hl : lookL D.files (keyS nA) = some F) : spoilD D nA m y = if m < 0 ∨ (F.bytes.length : Int) ≤ m then (D, 2) else (withFile D (keyS nA) ⟨F.bytes.set m.toNat (F.bytes.getD m.toNat 0 ^^^ y), F.sure, F.fresh⟩, 0) := by
  unfold spoilD findD
  rw [hl]
theorem cells4 (w : World) (v0 v1 v2 v3 : Value) (e : TypeId) : CellsAt (w.alloc (.cells #[v0, v1, v2, v3] e)) w.heap.size 4 (fun | 0 => v0 | 1 => v1 | 2 => v2 | _ => v3) := (cells_made w #[v0, v1, v2, v3] e).congr fun j hj => by
  have : j = 0 ∨ j = 1 ∨ j = 2 ∨ j = 3 := by have : j < 4 := hj; omega
  rcases this with rfl | rfl | rfl | rfl <;> rfl
set_option maxRecDepth 100000 in
set_option maxHeartbeats 2000000 in
theorem RSpoil_f {w : World} {rb g cap : Nat} {D : DiskD} {o : Option FileD} {R : Nat → Prop} (h : RDAt w rb g cap D o R) (m : Int) (y : UInt8) : Calls Tryz.prog 68 #[.pointer (some ⟨rb, 0, none⟩), .string (B nA), .int .i64 m, .int .u8 (y.toNat : Int)] w (RPost w rb R (spoilD D nA m y)) := by
  have H := Lib.hid h
  cases o with
  | none =>
    have HAT := Lib.hid (at_none h)
    have HE := Lib.hid (show spoilD D nA m y = (D, 5) by unfold spoilD findD; rw [h.look])
    clear h
    go_enter Tryz.func68, Tryz.ntmps68
    go_wp2_with fail
    with_reducible refine HAT.out.mono ?_
    rintro e w1 ⟨rfl, rfl⟩
    go_wp2
    go_ret
    exact RPost.same H.out HE.out
  | some F =>
    have HAT := Lib.hid (at_some h)
    have HSP := Lib.hid (spoil_some (m := m) (y := y) h.look)
    have c1 : w.cell? ⟨rb, 1, none⟩ = some (.slice (some ⟨g, 0, none⟩) 1 cap) := h.c1
    obtain ⟨e0, e1, e2, e3, -, -, -, -⟩ := h.cells
    have hgl := h.old _ (h.file F rfl).2.2.1
    have hrl := h.old _ h.mine
    have hsu := h.fine.sure (keyS nA, F) (mem_of_look h.look)
    have HL := Lib.hid h.look
    generalize hZ : F.bytes.length - F.sure = zl at *
    clear h
    go_enter Tryz.func68, Tryz.ntmps68
    go_wp2_with fail
    with_reducible refine HAT.out.mono ?_
    rintro e w2 ⟨rfl, rfl⟩
    have hb3 : Below w2.heap.size w2 (w2.alloc (.cells #[.string (B nA), .string (B F.bytes), .int .i64 (zl : Int), .bool F.fresh] 72)) := (Below.refl _ _).alloc (Nat.le_refl _) _
    have hg3 := cells4 w2 (.string (B nA)) (.string (B F.bytes)) (.int .i64 (zl : Int)) (.bool F.fresh) 72
    have HB3 := Lib.hid hb3
    have HS3 := Lib.hid (alloc_more w2 (.cells #[.string (B nA), .string (B F.bytes), .int .i64 (zl : Int), .bool F.fresh] 72))
    have q1 : (w2.alloc (.cells #[.string (B nA), .string (B F.bytes), .int .i64 (zl : Int), .bool F.fresh] 72)).cell? ⟨w2.heap.size, 1, none⟩ = some (.string (B F.bytes)) := (hg3 1 (by omega)).1
    by_cases hm : m < 0 ∨ (F.bytes.length : Int) ≤ m
    · have HE := Lib.hid (HSP.out.trans (if_pos hm))
      have HX := Lib.hid (show RPost w2 rb R (D, 2) (.returned (.int .i64 2)) (w2.alloc (.cells #[.string (B nA), .string (B F.bytes), .int .i64 (zl : Int), .bool F.fresh] 72)) from ⟨rfl, _, _, _, (H.out.later hb3).grow, Kept.of_below hb3⟩)
      clear hb3 hg3
      by_cases hm0 : m < 0
      · clear hm
        go_wp2
        go_ret
        rw [HE.out]
        exact HX.out
      · have hm1 : (F.bytes.length : Int) ≤ m := hm.resolve_left hm0
        clear hm
        go_wp2
        go_ret
        rw [HE.out]
        exact HX.out
    · obtain ⟨j, rfl⟩ : ∃ j : Nat, m = (j : Int) := ⟨m.toNat, by omega⟩
      have hj : j < F.bytes.length := by omega
      have HE := Lib.hid (show spoilD D nA (j : Int) y = (withFile D (keyS nA) ⟨F.bytes.set j (F.bytes[j] ^^^ y), F.sure, F.fresh⟩, 0) by
        rw [HSP.out, if_neg hm]
        simp [List.getD_eq_getElem?_getD, hj])
      have HFI := Lib.hid (H.out.fine.set (k := keyS nA) (F := F) (G := ⟨F.bytes.set j (F.bytes[j] ^^^ y), F.sure, F.fresh⟩) HL.out (by simpa using hsu) (by have := H.out.fine.fits; simp; omega))
      have HZ := Lib.hid (show (zl : Int) = (((F.bytes.set j (F.bytes[j] ^^^ y)).length - F.sure : Nat) : Int) by rw [List.length_set, hZ])
      have m0 : ¬ (j : Int) < 0 := by omega
      have m1 : (j : Int) < (F.bytes.length : Int) := by omega
      have m2 : 0 ≤ (j : Int) := by omega
      have m3 : ¬ (F.bytes.length : Int) ≤ (j : Int) := by omega
      clear hm hb3
      generalize hw3 : w2.alloc (.cells #[.string (B nA), .string (B F.bytes), .int .i64 (zl : Int), .bool F.fresh] 72) = w3 at *
      obtain ⟨kc, w4, hconv, hby, hbl, hsz⟩ := conv_laid (P := Tryz.prog) w3 9 74 5 (B F.bytes) Tryz.underlying9 Tryz.underlying74 Tryz.underlying5
      rw [B_size] at hconv
      rw [B_data] at hby
      obtain ⟨cj, fj⟩ := hby j hj
      have hx := Dk.u8_xor F.bytes[j] y
      have hset := hby.set j hj (F.bytes[j] ^^^ y)
      have hback := hset.back (P := Tryz.prog) 74 9 5 F.bytes.length kc (by simp) Tryz.underlying74 Tryz.underlying5 Tryz.underlying9
      have hg4 := hg3.below hbl (by have := HS3.out; omega)
      have hne4 : w3.heap.size ≠ w2.heap.size := by have := HS3.out; omega
      have hg5 := CellsAt.other (i := j) hg4 hne4 (.int .u8 (((F.bytes[j] ^^^ y).toNat : Nat) : Int))
      have hg6 := CellsAt.set hg5 (i := 1) (by omega) (.string (B (F.bytes.set j (F.bytes[j] ^^^ y))))
      have hb6 : Below w2.heap.size w3 ((w4.setCell ⟨w3.heap.size, j, none⟩ (.int .u8 (((F.bytes[j] ^^^ y).toNat : Nat) : Int))).setCell ⟨w2.heap.size, 1, none⟩ (.string (B (F.bytes.set j (F.bytes[j] ^^^ y))))) :=
        (((hbl.mono (B' := w2.heap.size) (by have := HS3.out; omega)).setCell (p := ⟨w3.heap.size, j, none⟩) (show w2.heap.size ≤ w3.heap.size by have := HS3.out; omega) _).setCell (p := ⟨w2.heap.size, 1, none⟩) (Nat.le_refl _) _)
      have HB6 := Lib.hid (HB3.out.trans hb6)
      have H6 := Lib.hid (H.out.later (HB3.out.trans hb6))
      have s0 : ((w4.setCell ⟨w3.heap.size, j, none⟩ (.int .u8 (((F.bytes[j] ^^^ y).toNat : Nat) : Int))).setCell ⟨w2.heap.size, 1, none⟩ (.string (B (F.bytes.set j (F.bytes[j] ^^^ y))))).cell? ⟨w2.heap.size, 0, none⟩ = some (.string (B nA)) := (hg6 0 (by omega)).1
      have s1 : ((w4.setCell ⟨w3.heap.size, j, none⟩ (.int .u8 (((F.bytes[j] ^^^ y).toNat : Nat) : Int))).setCell ⟨w2.heap.size, 1, none⟩ (.string (B (F.bytes.set j (F.bytes[j] ^^^ y))))).cell? ⟨w2.heap.size, 1, none⟩ = some (.string (B (F.bytes.set j (F.bytes[j] ^^^ y)))) := (hg6 1 (by omega)).1
      have s2 : ((w4.setCell ⟨w3.heap.size, j, none⟩ (.int .u8 (((F.bytes[j] ^^^ y).toNat : Nat) : Int))).setCell ⟨w2.heap.size, 1, none⟩ (.string (B (F.bytes.set j (F.bytes[j] ^^^ y))))).cell? ⟨w2.heap.size, 2, none⟩ = some (.int .i64 (zl : Int)) := (hg6 2 (by omega)).1
      have s3 : ((w4.setCell ⟨w3.heap.size, j, none⟩ (.int .u8 (((F.bytes[j] ^^^ y).toNat : Nat) : Int))).setCell ⟨w2.heap.size, 1, none⟩ (.string (B (F.bytes.set j (F.bytes[j] ^^^ y))))).cell? ⟨w2.heap.size, 3, none⟩ = some (.bool F.fresh) := (hg6 3 (by omega)).1
      have v1 : (w4.setCell ⟨w3.heap.size, j, none⟩ (.int .u8 (((F.bytes[j] ^^^ y).toNat : Nat) : Int))).cell? ⟨w2.heap.size, 1, none⟩ = some (.string (B F.bytes)) := (hg5 1 (by omega)).1
      have g2 := (hg5 1 (by omega)).2
      have c6 : ((w4.setCell ⟨w3.heap.size, j, none⟩ (.int .u8 (((F.bytes[j] ^^^ y).toNat : Nat) : Int))).setCell ⟨w2.heap.size, 1, none⟩ (.string (B (F.bytes.set j (F.bytes[j] ^^^ y))))).cell? ⟨rb, 1, none⟩ = some (.slice (some ⟨g, 0, none⟩) 1 cap) := H6.out.c1
      obtain ⟨x0, x1, x2, x3, xf0, xf1, xf2, xf3⟩ := H6.out.cells
      rw [hZ] at x2
      clear hg3 hby hset hbl hg4 hg5 hg6 hb6 HAT HB3
      generalize F.bytes[j] = xj at *
      generalize (xj ^^^ y).toNat = xv at *
      go_wp2_with fail
      generalize hw6 : (w4.setCell ⟨w3.heap.size, j, none⟩ (.int .u8 (xv : Int))).setCell ⟨w2.heap.size, 1, none⟩ (.string (B (F.bytes.set j (xj ^^^ y)))) = w6 at *
      go_still_tail 7, (by kernel_rfl)
      change wpList _ _ _ _ _ w6.drew
      go_wp2
      go_ret
      exact RPost.file (F' := ⟨F.bytes.set j (xj ^^^ y), F.sure, F.fresh⟩) H6.out (Kept.of_below HB6.out) _ HZ.out HFI.out HE.out
end Go.Proofs.YtpiaplgbpjgjiaaGreatDoor.Lp
