/-
  Disks (layer 7): the document's example, walked. No condition.
-/
import Derived.Test.YtpiaplgbpjgjiaaGreatDoorZDkCrash
open Go Go.RowKit
namespace Go.Proofs.YtpiaplgbpjgjiaaGreatDoor.Dk
open Base Mp

/-- A disk of the call's own: its blocks were made behind w0. -/
def DW (w0 w : World) (b : Nat) (D : DiskD) : Prop := Below w0.heap.size w0 w ∧ ∃ T, DiskAt w b D T ∧ ∀ i, T i → w0.heap.size ≤ i
theorem DW.op {w0 w : World} {b : Nat} {D : DiskD} {P : Program} {f : FuncId} {args : Array Value} {r : DiskD × Int} (h : DW w0 w b D) (c : ∀ T, DiskAt w b D T → Calls P f args w (OpPost w b T r)) : Calls P f args w fun e w' => e = .returned (.int .i64 r.2) ∧ DW w0 w' b r.1 := by
  obtain ⟨hb, T, hd, hT⟩ := h
  refine (c T hd).mono ?_
  rintro e w' ⟨he, h1, h2⟩
  refine ⟨he, hb.trans (h2.below hT hb.size), _, h1, fun i hi => ?_⟩
  rcases hi with hi | hi
  · exact hT i hi
  · exact Nat.le_trans hb.size hi.1
theorem DW.later {w0 w w' : World} {b : Nat} {D : DiskD} (h : DW w0 w b D) (hk : Below w.heap.size w w') : DW w0 w' b D := by
  obtain ⟨hb, T, hd, hT⟩ := h
  exact ⟨hb.trans (hk.mono hb.size), T, hd.next (Kept.of_below hk), hT⟩
theorem DW.new {w0 w : World} {r : Nat} (hr : r ≤ 4194304) (hb : Below w0.heap.size w0 w) : Calls Tryz.prog 6 #[.int .i64 (r : Int)] w fun e w' => ∃ b, e = .returned (.tuple #[.pointer (some ⟨b, 0, none⟩), .int .i64 0]) ∧ DW w0 w' b ⟨r, [], false, 0⟩ := by
  refine (New_f w r hr).mono ?_
  rintro e w' ⟨b, he, hd, hk⟩
  exact ⟨b, he, hb.trans (hk.mono hb.size), _, hd, fun i hi => Nat.le_trans hb.size hi.1⟩
theorem new100 {w0 w : World} (hb : Below w0.heap.size w0 w) : Calls Tryz.prog 6 #[.int .i64 100] w fun e w' => ∃ b, e = .returned (.tuple #[.pointer (some ⟨b, 0, none⟩), .int .i64 0]) ∧ DW w0 w' b ⟨100, [], false, 0⟩ := DW.new (r := 100) (by decide) hb
def dA0 : DiskD := ⟨100, [], false, 0⟩
def dA1 : DiskD := ⟨100, [(keyS [97], ⟨[], 0, true⟩)], false, 0⟩
def dA2 : DiskD := ⟨100, [(keyS [97], ⟨[120, 121, 122], 0, true⟩)], false, 0⟩
def dA3 : DiskD := ⟨100, [(keyS [97], ⟨[120, 121, 122], 3, false⟩)], false, 0⟩
def dA4 : DiskD := ⟨100, [(keyS [97], ⟨[120, 121, 122, 117, 118, 119], 3, false⟩)], false, 0⟩
def dA5 : DiskD := ⟨100, [(keyS [97], ⟨[120, 121, 122, 117, 118], 5, false⟩)], false, 0⟩
theorem names_one (D : DiskD) (F : FileD) (h : D.files = [(keyS [97], F)]) : namesD D = [[97]] := by
  unfold namesD
  rw [h]
  exact List.perm_singleton.1 (srt_perm [[97]])
theorem eA1 : createD dA0 [97] = (dA1, 0) := by rfl
theorem eA2 : appendD dA1 [97] [120, 121, 122] = (dA2, 0) := by rfl
theorem eA3 : syncD dA2 [97] = (dA3, 0) := by rfl
theorem eA4 : appendD dA3 [97] [117, 118, 119] = (dA4, 0) := by rfl
theorem eA5 : crashD dA4 [2] = dA5 := by
  unfold crashD crashed
  rw [names_one dA4 _ rfl]
  rfl
section
variable {w0 w : World} {b : Nat}
theorem kA1 (h : DW w0 w b dA0) : Calls Tryz.prog 24 #[.pointer (some ⟨b, 0, none⟩), .string ⟨#[97]⟩] w fun e w' => e = .returned (.int .i64 0) ∧ DW w0 w' b dA1 := by
  have t := h.op fun T hd => Create_f hd [97] (by decide)
  rw [eA1] at t
  exact t
theorem kA2 (h : DW w0 w b dA1) : Calls Tryz.prog 38 #[.pointer (some ⟨b, 0, none⟩), .string ⟨#[97]⟩, .string ⟨#[120, 121, 122]⟩] w fun e w' => e = .returned (.int .i64 0) ∧ DW w0 w' b dA2 := by
  have t := h.op fun T hd => Append_f hd [97] [120, 121, 122] (by decide) (by decide)
  rw [eA2] at t
  exact t
theorem kA3 (h : DW w0 w b dA2) : Calls Tryz.prog 28 #[.pointer (some ⟨b, 0, none⟩), .string ⟨#[97]⟩] w fun e w' => e = .returned (.int .i64 0) ∧ DW w0 w' b dA3 := by
  have t := h.op fun T hd => Sync_f hd [97] (by decide)
  rw [eA3] at t
  exact t
theorem kA4 (h : DW w0 w b dA3) : Calls Tryz.prog 38 #[.pointer (some ⟨b, 0, none⟩), .string ⟨#[97]⟩, .string ⟨#[117, 118, 119]⟩] w fun e w' => e = .returned (.int .i64 0) ∧ DW w0 w' b dA4 := by
  have t := h.op fun T hd => Append_f hd [97] [117, 118, 119] (by decide) (by decide)
  rw [eA4] at t
  exact t
theorem kLoose {D : DiskD} (h : DW w0 w b D) (n : List UInt8) (hn : n.length ≤ maxLen) (x : Nat) (hx : looseD D n = x) : Calls Tryz.prog 27 #[.pointer (some ⟨b, 0, none⟩), .string (B n)] w fun e w' => e = .returned (.int .i64 (x : Int)) ∧ DW w0 w' b D := by
  obtain ⟨hb, T, hd, hT⟩ := h
  refine (Loose_f hd n hn).mono ?_
  rintro e w' ⟨he, m, rfl⟩
  rw [hx] at he
  exact ⟨he, DW.later ⟨hb, T, hd, hT⟩ ((Below.refl _ _).drewN m)⟩
theorem kRoom {D : DiskD} (h : DW w0 w b D) (x : Nat) (hx : left D = x) : Calls Tryz.prog 47 #[.pointer (some ⟨b, 0, none⟩)] w fun e w' => e = .returned (.int .i64 (x : Int)) ∧ DW w0 w' b D := by
  obtain ⟨hb, T, hd, hT⟩ := h
  refine (Room_f hd).mono ?_
  rintro e w' ⟨he, hk⟩
  rw [hx] at he
  exact ⟨he, DW.later ⟨hb, T, hd, hT⟩ hk⟩
theorem kRead {D : DiskD} (h : DW w0 w b D) (n : List UInt8) (hn : n.length ≤ maxLen) : Calls Tryz.prog 23 #[.pointer (some ⟨b, 0, none⟩), .string (B n)] w fun e w' => e = .returned (.tuple #[.string (B (readD D n).1), .int .i64 (readD D n).2]) ∧ w = w' := by
  obtain ⟨hb, T, hd, hT⟩ := h
  exact Read_f hd n hn
theorem kNames {D : DiskD} (h : DW w0 w b D) : Calls Tryz.prog 46 #[.pointer (some ⟨b, 0, none⟩)] w fun e w' => ∃ p cap, e = .returned (.slice p D.files.length cap) ∧ DW w0 w' b D := by
  obtain ⟨hb, T, hd, hT⟩ := h
  refine (Names_f hd).mono ?_
  rintro e w' ⟨v, he, hr, hk⟩
  obtain ⟨p, cap, rfl, _⟩ := names_form hr
  rw [names_len] at he
  exact ⟨p, cap, he, DW.later ⟨hb, T, hd, hT⟩ hk⟩
theorem kA5 (h : DW w0 w b dA4) : Calls Tryz.prog 22 #[.pointer (some ⟨b, 0, none⟩), .slice (some ⟨w.heap.size, 0, none⟩) 1 1] (w.alloc (.cells #[.int .i64 2] 3)) fun e w' => e = .returned (.int .i64 0) ∧ DW w0 w' b dA5 := by
  have hk : Below w.heap.size w (w.alloc (.cells #[.int .i64 2] 3)) := (Below.refl _ _).alloc (Nat.le_refl _) _
  have hc := cells_made w #[.int .i64 2] 3
  obtain ⟨hb, T, hd, hT⟩ := h
  have hd0 := hd
  obtain ⟨tag, blk, bm, hdd⟩ := hd0
  have hd2 := hd.next (Kept.of_below (T := fun i => ¬ T i) hk)
  have t := Crash_f hd2 (some ⟨w.heap.size, 0, none⟩) [2] 1 (fun j hj => ⟨w.heap.size, 0, rfl, by
    obtain rfl : j = 0 := by simpa using hj
    exact (hc 0 (by simp)).1⟩) (fun x hx => by rw [List.mem_singleton.1 hx]; decide) (by decide) (by decide) (fun a ha ht => by
    injection ha with ha
    rw [← ha] at ht
    exact absurd (hdd.old _ ht) (Nat.lt_irrefl _))
  rw [eA5] at t
  refine t.mono ?_
  rintro e w' ⟨he, h1, h2⟩
  have hb2 := hb.trans (hk.mono hb.size)
  refine ⟨he, hb2.trans (h2.below hT hb2.size), _, h1, fun i hi => ?_⟩
  rcases hi with hi | hi
  · exact hT i hi
  · exact Nat.le_trans hb2.size hi.1
end
end Go.Proofs.YtpiaplgbpjgjiaaGreatDoor.Dk
