/-
  The document's net (layer 30): the walk of Turn. Condition: its struct and its row are the call's own.
-/
import Derived.Test.YtplfnjpoikhmbaaNtRef
open Go Go.RowKit
namespace Go.Proofs.Ytplfnjpoikhmbaa.Nt
open Base Mp

theorem cells_drew {w : World} {b m : Nat} {f : Nat → Value} (h : CellsAt w b m f) : CellsAt w.drew b m f := h
theorem kept_drew {T : Nat → Prop} {w w' : World} (h : Kept T w w') : Kept T w w'.drew := ⟨h.os, h.tape, h.output, h.size, h.block⟩
set_option maxRecDepth 100000 in
set_option maxHeartbeats 1000000 in
theorem RTurn_f {w : World} {rb base : Nat} {v : Value} {N : NetD} (h : RAt w rb base v N) (n : Nat) (m : Int) (y : UInt8) : Calls Try.prog 21 #[ptr rb, .int .u64 (n : Int), .int .i64 m, .int .u8 (y.toNat : Int)] w fun e w' => e = .returned (.int .i64 (turnE N n m)) ∧ RAt w' rb base v (turnR N n m y) ∧ Kept (fun i => v.ownBlock = some i) w w' := by
  have HAT := Lib.hid (At_f h n)
  have H := Lib.hid h
  by_cases hat : atN N.G n < N.G.length
  · obtain ⟨g, cap, rfl, hcap, hbg, hgl, r0, r1, r2, -⟩ := h.at hat
    have HE := Lib.hid (show atI N.G n = (atN N.G n : Int) from if_pos hat)
    have hfd := find_at_some hat
    have HSET := Lib.hid (fun x => set_at x h.fine.rise hat)
    have hfew := h.fine.few
    have c0 := h.c0
    have HATS := Lib.hid (fun W (hW : RAt W rb base (.slice (some ⟨g, 0, none⟩) N.G.length cap) N) => hW.at hat)
    generalize atN N.G n = k at *
    have tl : (k : Int) < (N.G.length : Int) := by omega
    have tz : 0 ≤ (k : Int) := by omega
    have t0 : ¬ ((k : Int) < 0) := by omega
    have HK := Lib.hid hat
    have HNE := Lib.hid (show g ≠ rb ∧ g < w.heap.size from ⟨by have := h.lo; omega, hgl⟩)
    rw [HE.out] at HAT
    clear h
    generalize N.G[k] = G1 at *
    obtain ⟨gi, gt, gx⟩ := G1
    simp only at r0 r1 r2 hfd HATS
    have HG0 := Lib.hid hfd.1
    have hgi : gi = n := hfd.2
    subst hgi
    clear hfd hat hgl
    unfold ptr at *
    go_enter Try.func21, Try.ntmps21
    go_wp2_with fail
    with_reducible refine HAT.out.mono ?_
    rintro e w2 ⟨rfl, rfl⟩
    have hb3 : Below w2.heap.size w2 (w2.alloc (.cells #[.int .u64 (gi : Int), .string (B gt), .string (B gx)] 32)) := (Below.refl _ _).alloc (Nat.le_refl _) _
    have HB3 := Lib.hid hb3
    have HN3 := Lib.hid (H.out.next hb3)
    have hg3 := gram_made w2 ⟨gi, gt, gx⟩
    have HG3 := Lib.hid hg3
    have HS3 := Lib.hid (alloc_more w2 (.cells #[.int .u64 (gi : Int), .string (B gt), .string (B gx)] 32))
    obtain ⟨q0, q1, q2, -, -, p2⟩ := hg3.cells
    simp only at q0 q1 q2
    by_cases hm : m < 0 ∨ (gx.length : Int) ≤ m
    · have HD := Lib.hid (show turnE N gi m = 2 by unfold turnE; rw [HG0.out]; exact if_pos hm)
      have HR := Lib.hid (show turnR N gi m y = N by unfold turnR; rw [HD.out]; rfl)
      clear hb3 hg3
      by_cases hm0 : m < 0
      · clear hm
        go_wp2
        go_ret
        rw [HD.out, HR.out]
        exact ⟨rfl, HN3.out, Kept.of_below HB3.out⟩
      · have hm1 : (gx.length : Int) ≤ m := hm.resolve_left hm0
        clear hm
        go_wp2
        go_ret
        rw [HD.out, HR.out]
        exact ⟨rfl, HN3.out, Kept.of_below HB3.out⟩
    · obtain ⟨j, rfl⟩ : ∃ j : Nat, m = (j : Int) := ⟨m.toNat, by omega⟩
      have hj : j < gx.length := by omega
      have HD := Lib.hid (show turnE N gi (j : Int) = 0 by unfold turnE; rw [HG0.out]; exact if_neg hm)
      have HR := Lib.hid (show turnR N gi (j : Int) y = ⟨setG N.G gi ⟨gi, gt, gx.set j (gx[j] ^^^ y)⟩, N.last, N.lost⟩ by
        unfold turnR turnN
        rw [HD.out, HG0.out, if_pos rfl]
        simp only [turnT, Int.toNat_natCast, List.getElem?_eq_getElem hj, Option.getD_some])
      have m0 : ¬ (j : Int) < 0 := by omega
      have m1 : (j : Int) < (gx.length : Int) := by omega
      have m2 : 0 ≤ (j : Int) := by omega
      have m3 : ¬ (gx.length : Int) ≤ (j : Int) := by omega
      clear hm hb3
      generalize hw3 : w2.alloc (.cells #[.int .u64 (gi : Int), .string (B gt), .string (B gx)] 32) = w3 at *
      obtain ⟨kc, w4, hconv, hby, hbl, hsz⟩ := conv_laid (P := Try.prog) w3 9 61 5 (B gx) Try.underlying9 Try.underlying61 Try.underlying5
      rw [B_size] at hconv
      rw [B_data] at hby
      obtain ⟨cj, fj⟩ := hby j hj
      have hx := u8_xor gx[j] y
      have hset := hby.set j hj (gx[j] ^^^ y)
      have hback := hset.back (P := Try.prog) 61 9 5 gx.length kc (by simp) Try.underlying61 Try.underlying5 Try.underlying9
      have hg4 : GramAt w4 w2.heap.size ⟨gi, gt, gx⟩ := hg3.below hbl (by have := HS3.out; omega)
      have hne4 : w3.heap.size ≠ w2.heap.size := by have := HS3.out; omega
      have hg5 : GramAt (w4.setCell ⟨w3.heap.size, j, none⟩ (.int .u8 (((gx[j] ^^^ y).toNat : Nat) : Int))) w2.heap.size ⟨gi, gt, gx⟩ := CellsAt.other hg4 hne4 _
      have hg6 : GramAt ((w4.setCell ⟨w3.heap.size, j, none⟩ (.int .u8 (((gx[j] ^^^ y).toNat : Nat) : Int))).setCell ⟨w2.heap.size, 2, none⟩ (.string (B (gx.set j (gx[j] ^^^ y))))) w2.heap.size ⟨gi, gt, gx.set j (gx[j] ^^^ y)⟩ := by
        refine (CellsAt.set hg5 (i := 2) (by omega) _).congr fun k hk => ?_
        have : k = 0 ∨ k = 1 ∨ k = 2 := by omega
        rcases this with rfl | rfl | rfl <;> simp
      have hb6 : Below w2.heap.size w3 ((w4.setCell ⟨w3.heap.size, j, none⟩ (.int .u8 (((gx[j] ^^^ y).toNat : Nat) : Int))).setCell ⟨w2.heap.size, 2, none⟩ (.string (B (gx.set j (gx[j] ^^^ y))))) :=
        (((hbl.mono (B' := w2.heap.size) (by have := HS3.out; omega)).setCell (p := ⟨w3.heap.size, j, none⟩) (show w2.heap.size ≤ w3.heap.size by have := HS3.out; omega) _).setCell (p := ⟨w2.heap.size, 2, none⟩) (Nat.le_refl _) _)
      have HB6 := Lib.hid (HB3.out.trans hb6)
      have hn6 := H.out.next (HB3.out.trans hb6)
      have HN6 := Lib.hid hn6
      obtain ⟨s0, s1, s2, -, -, -⟩ := hg6.cells
      obtain ⟨v0, v1, v2, -, -, g2⟩ := hg5.cells
      simp only at s0 s1 s2 v0 v1 v2
      have c6 := hn6.c0
      obtain ⟨ga, ca, ea, -, -, -, x0, x1, x2, xf⟩ := HATS.out _ hn6
      obtain ⟨rfl, rfl⟩ : g = ga ∧ cap = ca := by
        injection ea with e1 _ e2
        injection e1 with e1
        injection e1 with e1
        exact ⟨e1, e2⟩
      have xf0 := xf (k * 3)
      have xf1 := xf (k * 3 + 1)
      have xf2 := xf (k * 3 + 2)
      clear hg3 hby hset hbl hg4 hg5 hg6 hb6 hn6 ea xf HAT HATS
      generalize gx[j] = xj at *
      generalize (xj ^^^ y).toNat = xv at *
      go_wp2
      go_region
      all_goals go_wp2
      go_ret
      rw [HD.out, HR.out]
      have hr6 := (((HN6.out.row.stored (k * 3) (.int .u64 (gi : Int))).1.stored (k * 3 + 1) (.string (B gt))).1.stored (k * 3 + 2) (.string (B (gx.set j (xj ^^^ y))))).1
      have e9 := flat_set N.G k HK.out ⟨gi, gt, gx.set j (xj ^^^ y)⟩
      simp only at e9
      rw [e9] at hr6
      have hf := H.out.fine.turn gi j y
      have hfe : Fine ⟨setG N.G gi ⟨gi, gt, gx.set j (xj ^^^ y)⟩, N.last, N.lost⟩ := by
        have e := HR.out
        unfold turnR at e
        rw [HD.out, if_pos rfl, Int.toNat_natCast] at e
        rw [← e]
        exact hf
      rw [HSET.out] at hfe ⊢
      refine ⟨rfl, ⟨?_, ?_, H.out.lo, ?_, hfe⟩, ?_⟩
      · have hd := (CellsAt.other (CellsAt.other (CellsAt.other HN6.out.head HNE.out.1 (.int .u64 (gi : Int)) (i := k * 3)) HNE.out.1 (.string (B gt)) (i := k * 3 + 1)) HNE.out.1 (.string (B (gx.set j (xj ^^^ y)))) (i := k * 3 + 2))
        exact (cells_drew hd).congr fun k hk => by
          have : k = 0 ∨ k = 1 ∨ k = 2 := by omega
          rcases this with rfl | rfl | rfl <;> rfl
      · show World.ownsRow _ base _ 3 _ (N.G.set k _).length ((N.G.set k _).flatMap gramC)
        rw [List.length_set]
        exact World.ownsRow.drew hr6
      · have := HN6.out.top
        simpa using this
      · have k6 : Kept (fun i => (Value.slice (some ⟨g, 0, none⟩) N.G.length cap).ownBlock = some i) w2 _ := Kept.of_below HB6.out
        have k9 := ((k6.setCell (p := ⟨g, k * 3, none⟩) (.inl rfl) (.int .u64 (gi : Int))).setCell (p := ⟨g, k * 3 + 1, none⟩) (.inl rfl) (.string (B gt))).setCell (p := ⟨g, k * 3 + 2, none⟩) (.inl rfl) (.string (B (gx.set j (xj ^^^ y))))
        exact kept_drew k9
  · have HE := Lib.hid (show atI N.G n = -1 from if_neg hat)
    have HD := Lib.hid (show turnE N n m = 5 by unfold turnE; rw [find_at_none hat])
    have HR := Lib.hid (show turnR N n m y = N by unfold turnR; rw [HD.out]; rfl)
    rw [HE.out] at HAT
    clear h hat
    unfold ptr at *
    go_enter Try.func21, Try.ntmps21
    go_wp2_with fail
    with_reducible refine HAT.out.mono ?_
    rintro e w' ⟨rfl, rfl⟩
    go_wp2
    go_ret
    rw [HD.out, HR.out]
    exact ⟨rfl, H.out, Kept.refl _ _⟩
end Go.Proofs.Ytplfnjpoikhmbaa.Nt
