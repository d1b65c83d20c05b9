/-
  The document's disk (layer 7) with one file at most, "a": in memory; the walks of New, At, Room, down, done, May. Condition: the disk is the call's own.
-/
import Derived.Test.YtpiaplgbpjgjiaaGreatDoorZLgRow
open Go Go.RowKit
namespace Go.Proofs.YtpiaplgbpjgjiaaGreatDoor.Lp
open Base Mp Dk Frame Lg

def rdFuse (D : DiskD) : Int := if D.fused then (D.calls : Int) else -1
def rv (g cap : Nat) : Option FileD → Value
  | none => .slice none 0 0
  | some _ => .slice (some ⟨g, 0, none⟩) 1 cap
def rdCell (v : Value) (D : DiskD) : Nat → Value
  | 0 => .int .i64 (D.room : Int)
  | 1 => v
  | _ => .int .i64 (rdFuse D)
def rfCell (F : FileD) : Nat → Value
  | 0 => .string (B nA)
  | 1 => .string (B F.bytes)
  | 2 => .int .i64 ((F.bytes.length - F.sure : Nat) : Int)
  | _ => .bool F.fresh
structure RDAt (w : World) (rb g cap : Nat) (D : DiskD) (o : Option FileD) (R : Nat → Prop) : Prop where
  head : CellsAt w rb 3 (rdCell (rv g cap o) D)
  file : ∀ F, o = some F → CellsAt w g 4 (rfCell F) ∧ g ≠ rb ∧ R g ∧ 1 ≤ cap
  fs : D.files = (o.map fun F => (keyS nA, F)).toList
  mine : R rb
  old : ∀ i, R i → i < w.heap.size
  fine : Fine D
section
variable {w w' : World} {rb g cap : Nat} {D : DiskD} {o : Option FileD} {R X : Nat → Prop}
theorem RDAt.next (h : RDAt w rb g cap D o R) (hk : Kept X w w') (hX : ∀ i, X i → ¬ R i) : RDAt w' rb g cap D o R :=
  ⟨h.head.kept hk (h.old _ h.mine) (fun e => hX _ e h.mine), fun F hF => by
    obtain ⟨h1, h2, h3, h4⟩ := h.file F hF
    exact ⟨h1.kept hk (h.old _ h3) (fun e => hX _ e h3), h2, h3, h4⟩, h.fs, h.mine, fun i hi => Nat.lt_of_lt_of_le (h.old i hi) hk.size, h.fine⟩
theorem RDAt.later (h : RDAt w rb g cap D o R) (hb : Below w.heap.size w w') : RDAt w' rb g cap D o R := h.next (Kept.of_below (T := fun _ => False) hb) (fun _ h => h.elim)
theorem RDAt.wide (h : RDAt w rb g cap D o R) {R' : Nat → Prop} (h1 : ∀ i, R i → R' i) (h2 : ∀ i, R' i → i < w.heap.size) : RDAt w rb g cap D o R' :=
  ⟨h.head, fun F hF => by obtain ⟨a, b, c, d⟩ := h.file F hF; exact ⟨a, b, h1 _ c, d⟩, h.fs, h1 _ h.mine, h2, h.fine⟩
theorem RDAt.look (h : RDAt w rb g cap D o R) : lookL D.files (keyS nA) = o := by
  rw [h.fs]
  cases o with
  | none => rfl
  | some F =>
    show lookL [(keyS nA, F)] (keyS nA) = some F
    unfold lookL
    rw [List.find?_cons, WideAt.sameKey_self (isKey nA)]
    rfl
theorem RDAt.c0 (h : RDAt w rb g cap D o R) : w.cell? ⟨rb, 0, none⟩ = some (.int .i64 (D.room : Int)) := (h.head 0 (by omega)).1
theorem RDAt.c1 (h : RDAt w rb g cap D o R) : w.cell? ⟨rb, 1, none⟩ = some (rv g cap o) := (h.head 1 (by omega)).1
theorem RDAt.c2 (h : RDAt w rb g cap D o R) : w.cell? ⟨rb, 2, none⟩ = some (.int .i64 (rdFuse D)) := (h.head 2 (by omega)).1
theorem RDAt.f1 (h : RDAt w rb g cap D o R) : w.frozen? ⟨rb, 1, none⟩ = false := (h.head 1 (by omega)).2
theorem RDAt.f2 (h : RDAt w rb g cap D o R) : w.frozen? ⟨rb, 2, none⟩ = false := (h.head 2 (by omega)).2
structure FCells (w : World) (g : Nat) (F : FileD) : Prop where
  c0 : w.cell? ⟨g, 0, none⟩ = some (.string (B nA))
  c1 : w.cell? ⟨g, 1, none⟩ = some (.string (B F.bytes))
  c2 : w.cell? ⟨g, 2, none⟩ = some (.int .i64 ((F.bytes.length - F.sure : Nat) : Int))
  c3 : w.cell? ⟨g, 3, none⟩ = some (.bool F.fresh)
  f0 : w.frozen? ⟨g, 0, none⟩ = false
  f1 : w.frozen? ⟨g, 1, none⟩ = false
  f2 : w.frozen? ⟨g, 2, none⟩ = false
  f3 : w.frozen? ⟨g, 3, none⟩ = false
theorem fcells {F : FileD} (h : CellsAt w g 4 (rfCell F)) : FCells w g F :=
  ⟨(h 0 (by omega)).1, (h 1 (by omega)).1, (h 2 (by omega)).1, (h 3 (by omega)).1, (h 0 (by omega)).2, (h 1 (by omega)).2, (h 2 (by omega)).2, (h 3 (by omega)).2⟩
theorem RDAt.cells {F : FileD} (h : RDAt w rb g cap D (some F) R) : FCells w g F := fcells (h.file F rfl).1
/-- The fuse turned. -/
theorem RDAt.fuse (h : RDAt w rb g cap D o R) {D' : DiskD} (hf : D'.files = D.files) (hr : D'.room = D.room) (hfi : Fine D') : RDAt (w.setCell ⟨rb, 2, none⟩ (.int .i64 (rdFuse D'))) rb g cap D' o R := by
  have hk : Kept (fun i => i = rb) w (w.setCell ⟨rb, 2, none⟩ (.int .i64 (rdFuse D'))) := Kept.setCell (T := fun i => i = rb) (Kept.refl _ w) (p := ⟨rb, 2, none⟩) (.inl rfl) _
  refine ⟨(CellsAt.set h.head (i := 2) (by omega) _).congr fun j hj => ?_, fun F hF => ?_, by rw [hf]; exact h.fs, h.mine, fun i hi => by simpa using h.old i hi, hfi⟩
  · have : j = 0 ∨ j = 1 ∨ j = 2 := by omega
    rcases this with rfl | rfl | rfl
    · show Value.int .i64 (D.room : Int) = Value.int .i64 (D'.room : Int)
      rw [hr]
    · rfl
    · rfl
  · obtain ⟨h1, h2, h3, h4⟩ := h.file F hF
    exact ⟨h1.kept hk (h.old _ h3) h2, h2, h3, h4⟩
end
theorem nA_eq : (B nA == B nA) = true := rfl
set_option maxRecDepth 100000 in
theorem RNew_f (w : World) (r : Nat) (hr : r ≤ 4194304) : Calls Tryz.prog 7 #[.int .i64 (r : Int)] w fun e w' => e = .returned (.pointer (some ⟨w.heap.size, 0, none⟩)) ∧ RDAt w' w.heap.size 0 0 (DL0 r) none (fun i => i = w.heap.size) ∧ Below w.heap.size w w' := by
  go_enter Tryz.func7, Tryz.ntmps7
  go_wp2
  go_ret
  refine ⟨rfl, ⟨(cells_made w #[.int .i64 (r : Int), .slice none 0 0, .int .i64 (-1)] 61).congr fun j hj => ?_, (fun F hF => by cases hF), rfl, rfl, (fun i hi => by rw [hi, alloc_more]; omega), fine0 hr⟩, (Below.refl _ w).alloc (Nat.le_refl _) _⟩
  have : j = 0 ∨ j = 1 ∨ j = 2 := by have : j < 3 := hj; omega
  rcases this with rfl | rfl | rfl <;> rfl
set_option maxRecDepth 100000 in
set_option maxHeartbeats 2000000 in
theorem RAt_f {w : World} {rb g cap : Nat} {D : DiskD} {o : Option FileD} {R : Nat → Prop} (h : RDAt w rb g cap D o R) : Calls Tryz.prog 29 #[.pointer (some ⟨rb, 0, none⟩), .string (B nA)] w fun e w' => e = .returned (.int .i64 (if o.isSome then 0 else -1)) ∧ w' = w := by
  have c1 := h.c1
  have q := nA_eq
  cases o with
  | none =>
    simp only [rv] at c1
    clear h
    go_enter Tryz.func29, Tryz.ntmps29
    go_wp2
    go_loopw [5] (fun u wr => u = .int .i64 0 ∧ wr = w) (fun _ _ => 0)
    case atStart => exact ⟨rfl, rfl⟩
    case round =>
      obtain ⟨rfl, rfl⟩ := hrel
      go_wp2
      go_ret
      exact ⟨rfl, rfl⟩
  | some F =>
    simp only [rv] at c1
    have d0 := h.cells.c0
    clear h
    go_enter Tryz.func29, Tryz.ntmps29
    go_wp2
    go_loopw [5] (fun u wr => u = .int .i64 0 ∧ wr = w) (fun _ _ => 0)
    case atStart => exact ⟨rfl, rfl⟩
    case round =>
      obtain ⟨rfl, rfl⟩ := hrel
      go_wp2
      go_ret
      exact ⟨rfl, rfl⟩
theorem down_eq (D : DiskD) : (rdFuse D == 0) = still D := by
  unfold rdFuse still
  cases D.fused with
  | false => rfl
  | true =>
    simp only [if_true, Bool.true_and]
    rw [Bool.eq_iff_iff]
    simp
theorem RDown_f {w : World} {rb g cap : Nat} {D : DiskD} {o : Option FileD} {R : Nat → Prop} (h : RDAt w rb g cap D o R) : Calls Tryz.prog 59 #[.pointer (some ⟨rb, 0, none⟩)] w fun e w' => e = .returned (.bool (still D)) ∧ w' = w := by
  have c2 := h.c2
  have HE := Lib.hid (down_eq D)
  generalize rdFuse D = z at *
  clear h
  go_enter Tryz.func59, Tryz.ntmps59
  go_wp2
  go_ret
  rw [← HE.out]
  exact ⟨rfl, rfl⟩
theorem RDone_f {w : World} {rb g cap : Nat} {D : DiskD} {o : Option FileD} {R : Nat → Prop} (h : RDAt w rb g cap D o R) (hs : still D = false) : Calls Tryz.prog 60 #[.pointer (some ⟨rb, 0, none⟩)] w fun e w' => e = .returned (.tuple #[]) ∧ RDAt w' rb g cap (Dk.done D) o R ∧ Kept (fun i => i = rb) w w' := by
  have c2 := h.c2
  have f2 := h.f2
  have H := Lib.hid h
  cases hf : D.fused with
  | false =>
    have HD := Lib.hid (show Dk.done D = D by unfold Dk.done; rw [hf]; rfl)
    have e0 : rdFuse D = -1 := by unfold rdFuse; rw [hf]; rfl
    rw [e0] at c2
    clear h hs hf e0
    go_enter Tryz.func60, Tryz.ntmps60
    go_wp2
    refine bodyPost_end (results_none rfl _ _ _) rfl ?_
    rw [HD.out]
    exact ⟨rfl, H.out, Kept.refl _ _⟩
  | true =>
    have hc : 0 < D.calls := by
      unfold still at hs
      rw [hf] at hs
      simp at hs
      omega
    have hc2 := h.fine.calls
    have HD := Lib.hid (show rdFuse (Dk.done D) = (D.calls : Int) - 1 by
      unfold Dk.done rdFuse
      rw [hf]
      simp
      omega)
    have e0 : rdFuse D = (D.calls : Int) := by unfold rdFuse; rw [hf]; rfl
    rw [e0] at c2
    have HR := Lib.hid (h.fuse (D' := Dk.done D) (by unfold Dk.done; rw [hf]; rfl) (by unfold Dk.done; rw [hf]; rfl) h.fine.done)
    rw [HD.out] at HR
    have t0 : 0 < (D.calls : Int) := by omega
    clear h hs hf e0
    go_enter Tryz.func60, Tryz.ntmps60
    go_wp2
    refine bodyPost_end (results_none rfl _ _ _) rfl ?_
    exact ⟨rfl, HR.out, Kept.setCell (T := fun i => i = rb) (Kept.refl _ w) (p := ⟨rb, 2, none⟩) (.inl rfl) _⟩
theorem left_of {w : World} {rb g cap : Nat} {D : DiskD} {o : Option FileD} {R : Nat → Prop} (h : RDAt w rb g cap D o R) : (left D : Int) = (D.room : Int) - (((o.map fun F => F.bytes.length).getD 0 : Nat) : Int) ∧ (o.map fun F => F.bytes.length).getD 0 ≤ D.room := by
  have hf := h.fine.fits
  unfold left
  rw [h.fs] at hf ⊢
  cases o with
  | none => simp [total]
  | some F =>
    have e : total (((some F).map fun F => (keyS nA, F)).toList) = F.bytes.length := by simp [total]
    rw [e] at hf ⊢
    simp only [Option.map_some, Option.getD_some]
    omega
set_option maxRecDepth 100000 in
set_option maxHeartbeats 2000000 in
theorem RRoom_f {w : World} {rb g cap : Nat} {D : DiskD} {o : Option FileD} {R : Nat → Prop} (h : RDAt w rb g cap D o R) : Calls Tryz.prog 48 #[.pointer (some ⟨rb, 0, none⟩)] w fun e w' => e = .returned (.int .i64 (left D : Int)) ∧ w' = w := by
  obtain ⟨hL, hfit⟩ := left_of h
  rw [hL]
  have c0 := h.c0
  have c1 := h.c1
  have hroom := h.fine.room
  cases o with
  | none =>
    simp only [rv] at c1
    simp only [Option.map_none, Option.getD_none] at hfit ⊢
    clear h hL
    go_enter Tryz.func48, Tryz.ntmps48
    go_wp2
    go_loopw [3, 4] (fun u v wr => u = .int .i64 (D.room : Int) ∧ v = .int .i64 0 ∧ wr = w) (fun _ _ _ => 0)
    case atStart => exact ⟨rfl, rfl, rfl⟩
    case round =>
      obtain ⟨rfl, rfl, rfl⟩ := hrel
      go_wp2
      go_ret
      exact ⟨by simp, rfl⟩
  | some F =>
    simp only [rv] at c1
    simp only [Option.map_some, Option.getD_some] at hfit ⊢
    have d1 := h.cells.c1
    have HEQ := Lib.hid (show ((D.room - F.bytes.length : Nat) : Int) = (D.room : Int) - (F.bytes.length : Int) by omega)
    have eW : IntKind.i64.wrap ((D.room : Int) - (F.bytes.length : Int)) = (D.room : Int) - (F.bytes.length : Int) := by rw [IntKind.wrap_i64]; omega
    clear h hL
    go_enter Tryz.func48, Tryz.ntmps48
    go_wp2
    go_loopw [3, 4] (fun u v wr => (u = .int .i64 (D.room : Int) ∧ v = .int .i64 0 ∨ u = .int .i64 ((D.room : Int) - (F.bytes.length : Int)) ∧ v = .int .i64 1) ∧ wr = w) (fun _ v _ => 1 - (intOf v).toNat)
    case atStart => exact ⟨.inl ⟨rfl, rfl⟩, rfl⟩
    case round =>
      obtain ⟨⟨rfl, rfl⟩ | ⟨rfl, rfl⟩, rfl⟩ := hrel
      · go_wp2
        go_roundw
        case rel => exact ⟨.inr ⟨by go_num, rfl⟩, by first | rfl | trivial⟩
        case measure => simp [intOf]
      · go_wp2
        go_ret
        exact ⟨rfl, rfl⟩
set_option maxRecDepth 100000 in
set_option maxHeartbeats 2000000 in
theorem RMay_f (w : World) : Calls Tryz.prog 58 #[.string (B nA)] w fun e w' => e = .returned (.bool true) ∧ w' = w := by
  have q : B nA = ⟨#[97]⟩ := rfl
  rw [q]
  go_enter Tryz.func58, Tryz.ntmps58
  go_wp2
  go_loopw [3] (fun u wr => (u = .int .i64 0 ∨ u = .int .i64 1) ∧ wr = w) (fun u _ => 1 - (intOf u).toNat)
  case atStart => exact ⟨.inl rfl, rfl⟩
  case round =>
    obtain ⟨rfl | rfl, rfl⟩ := hrel
    · go_wp2
      exact ⟨⟨.inr rfl, by first | rfl | trivial⟩, by simp [intOf]⟩
    · go_wp2
      go_ret
      exact ⟨rfl, rfl⟩
end Go.Proofs.YtpiaplgbpjgjiaaGreatDoor.Lp
