/-
  The document's disk (layer 7) with one file at most, "a": the walks of Append, Sync, Cut. Condition: the disk is the call's own.
-/
import Derived.StillTailTactics
import Derived.Deep.CutRange
import Derived.Test.YtpiaplgbpjgjiaaGreatDoorZLpRef
open Go Go.RowKit
namespace Go.Proofs.YtpiaplgbpjgjiaaGreatDoor.Lp
open Base Mp Dk Frame Lg

def RPost (w : World) (rb : Nat) (R : Nat → Prop) (r : DiskD × Int) (e : Ending) (w' : World) : Prop := e = .returned (.int .i64 r.2) ∧ ∃ g cap o, RDAt w' rb g cap r.1 o (More R w w') ∧ Kept R w w'
section
variable {w w' : World} {rb g cap : Nat} {D : DiskD} {o : Option FileD} {R : Nat → Prop}
theorem RDAt.grow (h : RDAt w' rb g cap D o R) : RDAt w' rb g cap D o (More R w w') :=
  h.wide (fun _ hi => .inl hi) (fun i hi => by rcases hi with hi | hi; exact h.old i hi; exact hi.2)
theorem RPost.same {r : DiskD × Int} {c : Int} (h : RDAt w rb g cap D o R) (hr : r = (D, c)) : RPost w rb R r (.returned (.int .i64 c)) w := by
  subst hr
  exact ⟨rfl, g, cap, o, h.grow, Kept.refl _ _⟩
theorem kept_to {T T' : Nat → Prop} {a b : World} (h : Kept T a b) (hT : ∀ i, T i → T' i) : Kept T' a b := h.mono hT
theorem cells_drew {b m : Nat} {f : Nat → Value} (h : CellsAt w b m f) : CellsAt w.drew b m f := h
theorem kept_drew {T : Nat → Prop} (h : Kept T w w') : Kept T w w'.drew := ⟨h.os, h.tape, h.output, h.size, h.block⟩
/-- The four cells of the file turned. -/
def put4 (w : World) (g : Nat) (F : FileD) (z : Int) : World := (((w.setCell ⟨g, 0, none⟩ (.string (B nA))).setCell ⟨g, 1, none⟩ (.string (B F.bytes))).setCell ⟨g, 2, none⟩ (.int .i64 z)).setCell ⟨g, 3, none⟩ (.bool F.fresh)
theorem RDAt.put4 {F F' : FileD} (h : RDAt w rb g cap D (some F) R) {z : Int} (hz : z = ((F'.bytes.length - F'.sure : Nat) : Int)) (hfi : Fine (withFile D (keyS nA) F')) : RDAt (put4 w g F' z) rb g cap (withFile D (keyS nA) F') (some F') R ∧ Kept R w (put4 w g F' z) := by
  obtain ⟨h1, h2, h3, h4⟩ := h.file F rfl
  have hd := CellsAt.other (CellsAt.other (CellsAt.other (CellsAt.other h.head h2 (.string (B nA)) (i := 0)) h2 (.string (B F'.bytes)) (i := 1)) h2 (.int .i64 z) (i := 2)) h2 (.bool F'.fresh) (i := 3)
  have hc := (((h1.set (i := 0) (by omega) (.string (B nA))).set (i := 1) (by omega) (.string (B F'.bytes))).set (i := 2) (by omega) (.int .i64 z)).set (i := 3) (by omega) (.bool F'.fresh)
  refine ⟨⟨hd.congr fun j hj => ?_, fun G hG => ⟨?_, h2, h3, h4⟩, ?_, h.mine, fun i hi => by have := h.old i hi; simpa [Lp.put4] using this, hfi⟩, ?_⟩
  · have : j = 0 ∨ j = 1 ∨ j = 2 := by omega
    rcases this with rfl | rfl | rfl <;> rfl
  · injection hG with hG
    subst hG
    refine hc.congr fun j hj => ?_
    have : j = 0 ∨ j = 1 ∨ j = 2 ∨ j = 3 := by omega
    rcases this with rfl | rfl | rfl | rfl
    · rfl
    · rfl
    · show Value.int .i64 z = _
      rw [hz]; rfl
    · rfl
  · show setL D.files (keyS nA) F' = _
    rw [h.fs]
    show setL [(keyS nA, F)] (keyS nA) F' = [(keyS nA, F')]
    unfold setL
    rw [List.map_cons, WideAt.sameKey_self (isKey nA)]
    rfl
  · exact ((((Kept.refl R w).setCell (p := ⟨g, 0, none⟩) (.inl h3) _).setCell (p := ⟨g, 1, none⟩) (.inl h3) _).setCell (p := ⟨g, 2, none⟩) (.inl h3) _).setCell (p := ⟨g, 3, none⟩) (.inl h3) _
theorem RDAt.drew (h : RDAt w rb g cap D o R) : RDAt w.drew rb g cap D o R := h.later ((Below.refl _ w).drew)
theorem done_with (D : DiskD) (k : Lit) (F : FileD) : Dk.done (withFile D k F) = withFile (Dk.done D) k F := by
  obtain ⟨r, f, fu, c⟩ := D
  cases fu <;> rfl
theorem done_files (D : DiskD) : (Dk.done D).files = D.files := by
  obtain ⟨r, f, fu, c⟩ := D
  cases fu <;> rfl
theorem done_room (D : DiskD) : (Dk.done D).room = D.room := by
  obtain ⟨r, f, fu, c⟩ := D
  cases fu <;> rfl
/-- One file turned, in its place. -/
theorem RPost.file {w3 : World} {F F' : FileD} {D1 : DiskD} {r : DiskD × Int} (h3 : RDAt w3 rb g cap D1 (some F) R) (hk3 : Kept R w w3) (z : Int) (hz : z = ((F'.bytes.length - F'.sure : Nat) : Int)) (hfi : Fine (withFile D1 (keyS nA) F')) (hr : r = (withFile D1 (keyS nA) F', 0)) : RPost w rb R r (.returned (.int .i64 0)) (Lp.put4 w3 g F' z).drew := by
  subst hr
  obtain ⟨h4, k4⟩ := h3.put4 hz hfi
  exact ⟨rfl, g, cap, some F', h4.drew.grow, kept_drew (hk3.trans k4 (fun _ h => .inl h))⟩
end
theorem at_some {w : World} {rb g cap : Nat} {D : DiskD} {F : FileD} {R : Nat → Prop} (h : RDAt w rb g cap D (some F) R) : Calls Tryz.prog 29 #[.pointer (some ⟨rb, 0, none⟩), .string (B nA)] w fun e w' => e = .returned (.int .i64 0) ∧ w' = w := RAt_f h
theorem at_none {w : World} {rb g cap : Nat} {D : DiskD} {R : Nat → Prop} (h : RDAt w rb g cap D none R) : Calls Tryz.prog 29 #[.pointer (some ⟨rb, 0, none⟩), .string (B nA)] w fun e w' => e = .returned (.int .i64 (-1)) ∧ w' = w := RAt_f h
theorem opD_still {D : DiskD} {f : FileD → DiskD × Int} (hs : still D = true) : opD D nA f = (D, 70) := by unfold opD; rw [if_pos hs]
theorem opD_none {D : DiskD} {f : FileD → DiskD × Int} (hs : still D = false) (hl : lookL D.files (keyS nA) = none) : opD D nA f = (D, 5) := by unfold opD; rw [if_neg (by rw [hs]; decide), hl]
theorem opD_some {D : DiskD} {F : FileD} {f : FileD → DiskD × Int} (hs : still D = false) (hl : lookL D.files (keyS nA) = some F) : opD D nA f = f F := by unfold opD; rw [if_neg (by rw [hs]; decide), hl]
set_option maxRecDepth 100000 in
set_option maxHeartbeats 1000000 in
theorem RSync_f {w : World} {rb g cap : Nat} {D : DiskD} {o : Option FileD} {R : Nat → Prop} (h : RDAt w rb g cap D o R) : Calls Tryz.prog 33 #[.pointer (some ⟨rb, 0, none⟩), .string (B nA)] w (RPost w rb R (syncD D nA)) := by
  have HDN := Lib.hid (RDown_f h)
  have H := Lib.hid h
  cases hs : still D with
  | true =>
    rw [hs] at HDN
    have HAT := Lib.hid (RAt_f h)
    have HE := Lib.hid (show syncD D nA = (D, 70) from opD_still hs)
    clear h hs
    generalize (if o.isSome = true then (0 : Int) else -1) = z at *
    go_enter Tryz.func33, Tryz.ntmps33
    go_wp2_with fail
    with_reducible refine HAT.out.mono ?_
    rintro e w1 ⟨rfl, rfl⟩
    go_wp2_with fail
    with_reducible refine HDN.out.mono ?_
    rintro e w2 ⟨rfl, rfl⟩
    go_wp2
    go_ret
    exact RPost.same H.out HE.out
  | false =>
    rw [hs] at HDN
    cases o with
    | none =>
      have HAT := Lib.hid (at_none h)
      have HE := Lib.hid (show syncD D nA = (D, 5) from opD_none hs h.look)
      clear h hs
      go_enter Tryz.func33, Tryz.ntmps33
      go_wp2_with fail
      with_reducible refine HAT.out.mono ?_
      rintro e w1 ⟨rfl, rfl⟩
      go_wp2_with fail
      with_reducible refine HDN.out.mono ?_
      rintro e w2 ⟨rfl, rfl⟩
      go_wp2
      go_ret
      exact RPost.same H.out HE.out
    | some F =>
      have HAT := Lib.hid (at_some h)
      have HDO := Lib.hid (RDone_f h hs)
      have HE := Lib.hid (show syncD D nA = (Dk.done (withFile D (keyS nA) ⟨F.bytes, F.bytes.length, false⟩), 0) from opD_some hs h.look)
      have HFI := Lib.hid (h.fine.done.set (k := keyS nA) (F := F) (G := ⟨F.bytes, F.bytes.length, false⟩) (by rw [done_files]; exact h.look) (Nat.le_refl _) (by have := h.fine.done.fits; simp only; omega))
      clear h hs
      go_enter Tryz.func33, Tryz.ntmps33
      go_wp2_with fail
      with_reducible refine HAT.out.mono ?_
      rintro e w1 ⟨rfl, rfl⟩
      go_wp2_with fail
      with_reducible refine HDN.out.mono ?_
      rintro e w2 ⟨rfl, rfl⟩
      go_wp2_with fail
      with_reducible refine HDO.out.mono ?_
      rintro e w3 ⟨rfl, h3, hk3⟩
      obtain ⟨d0, d1, d2, d3, f0, f1, f2, f3⟩ := h3.cells
      have c1 : w3.cell? ⟨rb, 1, none⟩ = some (.slice (some ⟨g, 0, none⟩) 1 cap) := h3.c1
      have HK3 := Lib.hid (hk3.mono (T' := R) fun i hi => by rw [hi]; exact H.out.mine)
      have H3 := Lib.hid h3
      clear h3 hk3
      go_wp2_with fail
      go_still_tail 16, (by kernel_rfl)
      change wpList _ _ _ _ _ w3.drew
      go_wp2
      go_ret
      exact RPost.file H3.out HK3.out 0 (by simp) HFI.out (by rw [HE.out, done_with])
set_option maxRecDepth 100000 in
set_option maxHeartbeats 1000000 in
theorem RCut_f {w : World} {rb g cap : Nat} {D : DiskD} {o : Option FileD} {R : Nat → Prop} (h : RDAt w rb g cap D o R) (m : Int) : Calls Tryz.prog 32 #[.pointer (some ⟨rb, 0, none⟩), .string (B nA), .int .i64 m] w (RPost w rb R (cutD D nA m)) := by
  have HDN := Lib.hid (RDown_f h)
  have H := Lib.hid h
  cases hs : still D with
  | true =>
    rw [hs] at HDN
    have HAT := Lib.hid (RAt_f h)
    have HE := Lib.hid (show cutD D nA m = (D, 70) from opD_still hs)
    clear h hs
    generalize (if o.isSome = true then (0 : Int) else -1) = z at *
    go_enter Tryz.func32, Tryz.ntmps32
    go_wp2_with fail
    with_reducible refine HAT.out.mono ?_
    rintro e w1 ⟨rfl, rfl⟩
    go_wp2_with fail
    with_reducible refine HDN.out.mono ?_
    rintro e w2 ⟨rfl, rfl⟩
    go_wp2
    go_ret
    exact RPost.same H.out HE.out
  | false =>
    rw [hs] at HDN
    cases o with
    | none =>
      have HAT := Lib.hid (at_none h)
      have HE := Lib.hid (show cutD D nA m = (D, 5) from opD_none hs h.look)
      clear h hs
      go_enter Tryz.func32, Tryz.ntmps32
      go_wp2_with fail
      with_reducible refine HAT.out.mono ?_
      rintro e w1 ⟨rfl, rfl⟩
      go_wp2_with fail
      with_reducible refine HDN.out.mono ?_
      rintro e w2 ⟨rfl, rfl⟩
      go_wp2
      go_ret
      exact RPost.same H.out HE.out
    | some F =>
      have HAT := Lib.hid (at_some h)
      by_cases hm : m < 0 ∨ (F.bytes.length : Int) < m
      · have HE := Lib.hid (show cutD D nA m = (D, 2) from (opD_some hs h.look).trans (if_pos hm))
        have c1 : w.cell? ⟨rb, 1, none⟩ = some (.slice (some ⟨g, 0, none⟩) 1 cap) := h.c1
        have d1 := h.cells.c1
        clear h hs
        by_cases hm0 : m < 0
        · clear hm
          go_enter Tryz.func32, Tryz.ntmps32
          go_wp2_with fail
          with_reducible refine HAT.out.mono ?_
          rintro e w1 ⟨rfl, rfl⟩
          go_wp2_with fail
          with_reducible refine HDN.out.mono ?_
          rintro e w2 ⟨rfl, rfl⟩
          go_wp2
          go_ret
          exact RPost.same H.out HE.out
        · have hm1 : (F.bytes.length : Int) < m := hm.resolve_left hm0
          clear hm
          go_enter Tryz.func32, Tryz.ntmps32
          go_wp2_with fail
          with_reducible refine HAT.out.mono ?_
          rintro e w1 ⟨rfl, rfl⟩
          go_wp2_with fail
          with_reducible refine HDN.out.mono ?_
          rintro e w2 ⟨rfl, rfl⟩
          go_wp2
          go_ret
          exact RPost.same H.out HE.out
      · obtain ⟨j, rfl⟩ : ∃ j : Nat, m = (j : Int) := ⟨m.toNat, by omega⟩
        have m0 : ¬ (j : Int) < 0 := by omega
        have m1 : (j : Int) ≤ (F.bytes.length : Int) := by omega
        have m2 : 0 ≤ (j : Int) := by omega
        have m3 : ¬ (F.bytes.length : Int) < (j : Int) := by omega
        have hj : j ≤ F.bytes.length := by omega
        have HJ := Lib.hid hj
        have HE := Lib.hid (show cutD D nA (j : Int) = (Dk.done (withFile D (keyS nA) ⟨F.bytes.take j, j, false⟩), 0) from (opD_some hs h.look).trans (if_neg hm))
        have HFI := Lib.hid (h.fine.done.set (k := keyS nA) (F := F) (G := ⟨F.bytes.take j, j, false⟩) (by rw [done_files]; exact h.look) (by simp only [List.length_take]; omega) (by have := h.fine.done.fits; simp only [List.length_take]; omega))
        have HDO := Lib.hid (RDone_f h hs)
        have c1 : w.cell? ⟨rb, 1, none⟩ = some (.slice (some ⟨g, 0, none⟩) 1 cap) := h.c1
        have d1 := h.cells.c1
        clear h hs hm
        go_enter Tryz.func32, Tryz.ntmps32
        go_wp2_with fail
        with_reducible refine HAT.out.mono ?_
        rintro e w1 ⟨rfl, rfl⟩
        go_wp2_with fail
        with_reducible refine HDN.out.mono ?_
        rintro e w2 ⟨rfl, rfl⟩
        go_wp2_with fail
        with_reducible refine HDO.out.mono ?_
        rintro e w3 ⟨rfl, h3, hk3⟩
        obtain ⟨e0, e1, e2, e3, f0, f1, f2, f3⟩ := h3.cells
        have c3 : w3.cell? ⟨rb, 1, none⟩ = some (.slice (some ⟨g, 0, none⟩) 1 cap) := h3.c1
        have HK3 := Lib.hid (hk3.mono (T' := R) fun i hi => by rw [hi]; exact H.out.mine)
        have H3 := Lib.hid h3
        clear h3 hk3 c1 d1
        go_wp2_with fail
        go_still_tail 18, (by kernel_rfl)
        change wpList _ _ _ _ _ w3.drew
        go_wp2
        go_ret
        exact RPost.file (F' := ⟨F.bytes.take j, j, false⟩) H3.out HK3.out 0 (by have := HJ.out; simp; omega) HFI.out (by rw [HE.out, done_with])
set_option maxRecDepth 100000 in
set_option maxHeartbeats 1000000 in
theorem RAppend_f {w : World} {rb g cap : Nat} {D : DiskD} {o : Option FileD} {R : Nat → Prop} (h : RDAt w rb g cap D o R) (s : List UInt8) (hl : s.length ≤ 1099511627776) : Calls Tryz.prog 42 #[.pointer (some ⟨rb, 0, none⟩), .string (B nA), .string (B s)] w (RPost w rb R (appendD D nA s)) := by
  have HDN := Lib.hid (RDown_f h)
  have H := Lib.hid h
  cases hs : still D with
  | true =>
    rw [hs] at HDN
    have HAT := Lib.hid (RAt_f h)
    have HE := Lib.hid (show appendD D nA s = (D, 70) from opD_still hs)
    clear h hs
    generalize (if o.isSome = true then (0 : Int) else -1) = z at *
    go_enter Tryz.func42, Tryz.ntmps42
    go_wp2_with fail
    with_reducible refine HAT.out.mono ?_
    rintro e w1 ⟨rfl, rfl⟩
    go_wp2_with fail
    with_reducible refine HDN.out.mono ?_
    rintro e w2 ⟨rfl, rfl⟩
    go_wp2
    go_ret
    exact RPost.same H.out HE.out
  | false =>
    rw [hs] at HDN
    cases o with
    | none =>
      have HAT := Lib.hid (at_none h)
      have HE := Lib.hid (show appendD D nA s = (D, 5) from opD_none hs h.look)
      clear h hs
      go_enter Tryz.func42, Tryz.ntmps42
      go_wp2_with fail
      with_reducible refine HAT.out.mono ?_
      rintro e w1 ⟨rfl, rfl⟩
      go_wp2_with fail
      with_reducible refine HDN.out.mono ?_
      rintro e w2 ⟨rfl, rfl⟩
      go_wp2
      go_ret
      exact RPost.same H.out HE.out
    | some F =>
      have HAT := Lib.hid (at_some h)
      have HRM := Lib.hid (RRoom_f h)
      by_cases hm : left D < s.length
      · have HE := Lib.hid (show appendD D nA s = (D, 6) from (opD_some hs h.look).trans (if_pos hm))
        have t1 : (left D : Int) < (s.length : Int) := by omega
        clear h hs hm
        go_enter Tryz.func42, Tryz.ntmps42
        go_wp2_with fail
        with_reducible refine HAT.out.mono ?_
        rintro e w1 ⟨rfl, rfl⟩
        go_wp2_with fail
        with_reducible refine HDN.out.mono ?_
        rintro e w2 ⟨rfl, rfl⟩
        go_wp2_with fail
        with_reducible refine HRM.out.mono ?_
        rintro e w3 ⟨rfl, rfl⟩
        go_wp2
        go_ret
        exact RPost.same H.out HE.out
      · have HE := Lib.hid (show appendD D nA s = (Dk.done (withFile D (keyS nA) ⟨F.bytes ++ s, F.sure, F.fresh⟩), 0) from (opD_some hs h.look).trans (if_neg hm))
        have t1 : ¬ ((left D : Int) < (s.length : Int)) := by omega
        have hsure := h.fine.sure (keyS nA, F) (mem_of_look h.look)
        have hsh := h.fine.short (mem_of_look h.look)
        have hfit := h.fine.fits
        have hroom := h.fine.room
        simp only at hsure hsh
        have HFI := Lib.hid (h.fine.done.set (k := keyS nA) (F := F) (G := ⟨F.bytes ++ s, F.sure, F.fresh⟩) (by rw [done_files]; exact h.look) (by simp only [List.length_append]; omega) (by rw [done_room, done_files]; simp only [List.length_append]; unfold left at hm; omega))
        have HZ := Lib.hid (show (((F.bytes.length - F.sure : Nat) : Int) + (s.length : Int)) = (((F.bytes ++ s).length - F.sure : Nat) : Int) by rw [List.length_append]; omega)
        have HDO := Lib.hid (RDone_f h hs)
        have eW : IntKind.i64.wrap (((F.bytes.length - F.sure : Nat) : Int) + (s.length : Int)) = ((F.bytes.length - F.sure : Nat) : Int) + (s.length : Int) := by rw [IntKind.wrap_i64]; omega
        have b3 : ¬ (9223372036854775807 < F.bytes.length + s.length) := by omega
        clear h hs hm hfit
        generalize hZ : F.bytes.length - F.sure = zl at *
        go_enter Tryz.func42, Tryz.ntmps42
        go_wp2_with fail
        with_reducible refine HAT.out.mono ?_
        rintro e w1 ⟨rfl, rfl⟩
        go_wp2_with fail
        with_reducible refine HDN.out.mono ?_
        rintro e w2 ⟨rfl, rfl⟩
        go_wp2_with fail
        with_reducible refine HRM.out.mono ?_
        rintro e w3 ⟨rfl, rfl⟩
        go_wp2_with fail
        with_reducible refine HDO.out.mono ?_
        rintro e w4 ⟨rfl, h4, hk4⟩
        obtain ⟨e0, e1, e2, e3, f0, f1, f2, f3⟩ := h4.cells
        rw [hZ] at e2
        have c3 : w4.cell? ⟨rb, 1, none⟩ = some (.slice (some ⟨g, 0, none⟩) 1 cap) := h4.c1
        have HK4 := Lib.hid (hk4.mono (T' := R) fun i hi => by rw [hi]; exact H.out.mine)
        have H4 := Lib.hid h4
        clear h4 hk4
        go_upto_region 12 with fail
        have hal : Below w4.heap.size w4 (w4.alloc (.cells #[.string (B nA), .string (B (F.bytes ++ s)), .int .i64 ((zl : Int) + (s.length : Int)), .bool F.fresh] 72)) := (Below.refl _ _).alloc (Nat.le_refl _) _
        have hd := cells_made w4 #[.string (B nA), .string (B (F.bytes ++ s)), .int .i64 ((zl : Int) + (s.length : Int)), .bool F.fresh] 72
        have H5 := Lib.hid (H4.out.later hal)
        have HK5 := Lib.hid (HK4.out.trans (Kept.of_below (T := R) hal) (fun _ h => .inl h))
        obtain ⟨-, -, -, -, f0, f1, f2, f3⟩ := H5.out.cells
        obtain ⟨e0, e1, e2, e3, -, -, -, -⟩ := H5.out.cells
        have c5 : (w4.alloc (.cells #[.string (B nA), .string (B (F.bytes ++ s)), .int .i64 ((zl : Int) + (s.length : Int)), .bool F.fresh] 72)).cell? ⟨rb, 1, none⟩ = some (.slice (some ⟨g, 0, none⟩) 1 cap) := H5.out.c1
        have g0 : (w4.alloc (.cells #[.string (B nA), .string (B (F.bytes ++ s)), .int .i64 ((zl : Int) + (s.length : Int)), .bool F.fresh] 72)).cell? ⟨w4.heap.size, 0, none⟩ = some (.string (B nA)) := (hd 0 (by show 0 < 4; omega)).1
        have g1 : (w4.alloc (.cells #[.string (B nA), .string (B (F.bytes ++ s)), .int .i64 ((zl : Int) + (s.length : Int)), .bool F.fresh] 72)).cell? ⟨w4.heap.size, 1, none⟩ = some (.string (B (F.bytes ++ s))) := (hd 1 (by show 1 < 4; omega)).1
        have g2 : (w4.alloc (.cells #[.string (B nA), .string (B (F.bytes ++ s)), .int .i64 ((zl : Int) + (s.length : Int)), .bool F.fresh] 72)).cell? ⟨w4.heap.size, 2, none⟩ = some (.int .i64 ((zl : Int) + (s.length : Int))) := (hd 2 (by show 2 < 4; omega)).1
        have g3 : (w4.alloc (.cells #[.string (B nA), .string (B (F.bytes ++ s)), .int .i64 ((zl : Int) + (s.length : Int)), .bool F.fresh] 72)).cell? ⟨w4.heap.size, 3, none⟩ = some (.bool F.fresh) := (hd 3 (by show 3 < 4; omega)).1
        clear hal hd H4 HK4 c3
        generalize w4.alloc (.cells #[.string (B nA), .string (B (F.bytes ++ s)), .int .i64 ((zl : Int) + (s.length : Int)), .bool F.fresh] 72) = w5 at *
        go_still_tail 7, (by kernel_rfl)
        change wpList _ _ _ _ _ w5.drew
        go_wp2
        go_ret
        exact RPost.file (F' := ⟨F.bytes ++ s, F.sure, F.fresh⟩) H5.out HK5.out _ HZ.out HFI.out (by rw [HE.out, done_with])
end Go.Proofs.YtpiaplgbpjgjiaaGreatDoor.Lp
