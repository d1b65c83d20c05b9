/-
  The document's disk (layer 7) with one file at most, "a": the walk of Crash. Condition: the disk is the call's own.
-/
import Derived.Deep.CutRange
import Derived.Deep.RegionLaw
import Derived.Deep.RegionHeld3
import Derived.Test.YtpiaplgbpjgjiaaGreatDoorZLpRefC
open Go Go.RowKit
namespace Go.Proofs.YtpiaplgbpjgjiaaGreatDoor.Lp
open Base Mp Dk Frame Lg

theorem crash_zero {D : DiskD} (keep : List Int) (h : D.files = []) : crashD D keep = ⟨D.room, [], false, 0⟩ := by
  unfold crashD crashed namesD
  rw [h, List.map_nil, List.perm_nil.1 (srt_perm [])]
  rfl
theorem crash_one {D : DiskD} {F : FileD} (keep : List Int) (h : D.files = [(keyS nA, F)]) : crashD D keep = ⟨D.room, (crash1 ([(keyS nA, F)], keep) nA).1, false, 0⟩ := by
  unfold crashD crashed
  rw [names_one D F h, h]
  rfl
theorem look_one (F : FileD) : lookL [(keyS nA, F)] (keyS nA) = some F := by
  unfold lookL
  rw [List.find?_cons, WideAt.sameKey_self (isKey nA)]
  rfl
theorem crash1_a {F : FileD} {keep : List Int} (h : F.bytes.length - F.sure = 0 ∧ F.fresh = false) : (crash1 ([(keyS nA, F)], keep) nA).1 = [(keyS nA, F)] := by
  unfold crash1
  rw [look_one]
  simp only
  rw [if_pos h]
theorem crash1_b {F : FileD} {keep : List Int} (h : F.fresh = true ∧ keep.headD (-1) < 0) : (crash1 ([(keyS nA, F)], keep) nA).1 = [] := by
  unfold crash1
  rw [look_one]
  simp only
  rw [if_neg (by rw [h.1]; simp), if_pos h]
  unfold delL
  rw [List.filter_cons, WideAt.sameKey_self (isKey nA)]
  rfl
theorem crash1_c {F : FileD} {keep : List Int} (h1 : ¬ (F.bytes.length - F.sure = 0 ∧ F.fresh = false)) (h2 : ¬ (F.fresh = true ∧ keep.headD (-1) < 0)) (k : Nat) (hk : keptOf F (keep.headD (-1)) = k) : (crash1 ([(keyS nA, F)], keep) nA).1 = [(keyS nA, ⟨F.bytes.take k, k, false⟩)] := by
  unfold crash1
  rw [look_one]
  simp only
  rw [if_neg h1, if_neg h2, hk]
  unfold setL
  rw [List.map_cons, WideAt.sameKey_self (isKey nA)]
  rfl
/-- What the loop leaves. -/
def CRes (w : World) (o : Option FileD) (x : Value) (wr : World) : Prop := ∃ g cap, x = rv g cap o ∧ (∀ F, o = some F → CellsAt wr g 4 (rfCell F) ∧ w.heap.size ≤ g ∧ g < wr.heap.size ∧ 1 ≤ cap) ∧ Below w.heap.size w wr
def CPost (w : World) (rb : Nat) (R : Nat → Prop) (D : DiskD) (e : Ending) (w' : World) : Prop := e = .returned (.tuple #[]) ∧ ∃ g cap o, RDAt w' rb g cap D o (More R w w') ∧ Kept R w w'
theorem fine_crash {D : DiskD} {o : Option FileD} (h : Fine D) (hs : ∀ F, o = some F → F.sure ≤ F.bytes.length ∧ F.bytes.length ≤ D.room) : Fine ⟨D.room, (o.map fun F => (keyS nA, F)).toList, false, 0⟩ := by
  cases o with
  | none => exact ⟨by simp, h.room, by simp [total], fun p hp => by simp at hp, fun p hp => by simp at hp, by simp, by show (0 : Nat) < _; omega⟩
  | some F =>
    obtain ⟨h1, h2⟩ := hs F rfl
    exact ⟨by simp, h.room, by simpa [total] using h2, fun p hp => ⟨nA, by simp at hp; rw [hp], mayA⟩, fun p hp => by simp at hp; rw [hp]; exact h1, by simp, by show (0 : Nat) < _; omega⟩
theorem crash_end {w wr : World} {rb g cap : Nat} {D : DiskD} {o o' : Option FileD} {R : Nat → Prop} {x : Value} (h : RDAt w rb g cap D o R) (hr : CRes w o' x wr) {D' : DiskD} (hD : D' = ⟨D.room, (o'.map fun F => (keyS nA, F)).toList, false, 0⟩) (hs : ∀ F, o' = some F → F.sure ≤ F.bytes.length ∧ F.bytes.length ≤ D.room) :
    CPost w rb R D' (.returned (.tuple #[])) ((wr.setCell ⟨rb, 1, none⟩ x).setCell ⟨rb, 2, none⟩ (.int .i64 (-1))) := by
  subst hD
  obtain ⟨g', cap', rfl, hf, hb⟩ := hr
  have hk : Kept (fun i => i = rb) w ((wr.setCell ⟨rb, 1, none⟩ (rv g' cap' o')).setCell ⟨rb, 2, none⟩ (.int .i64 (-1))) := ((Kept.of_below (T := fun i => i = rb) hb).setCell (p := ⟨rb, 1, none⟩) (.inl rfl) _).setCell (p := ⟨rb, 2, none⟩) (.inl rfl) _
  have hrb := h.old _ h.mine
  have hh := h.later hb
  obtain ⟨q1, q2⟩ := h.row (o' := o') (D' := ⟨D.room, (o'.map fun F => (keyS nA, F)).toList, false, 0⟩) (g' := g') (cap' := cap') hk ((CellsAt.set (CellsAt.set hh.head (i := 1) (by omega) (rv g' cap' o')) (i := 2) (by omega) (.int .i64 (-1))).congr fun j hj => by
    have : j = 0 ∨ j = 1 ∨ j = 2 := by omega
    rcases this with rfl | rfl | rfl <;> rfl) (fun F hF => by
    obtain ⟨h1, h2, h3, h4⟩ := hf F hF
    exact ⟨CellsAt.other (CellsAt.other h1 (by omega) _) (by omega) _, h2, by simpa using h3, h4⟩) rfl (fine_crash h.fine hs)
  exact ⟨rfl, _, _, _, q1, q2⟩
set_option maxRecDepth 100000 in
set_option maxHeartbeats 2000000 in
theorem RCrash0_f {w : World} {rb g cap : Nat} {D : DiskD} {R : Nat → Prop} (h : RDAt w rb g cap D none R) (p : Option Addr) (keep : List Int) (c : Nat) : Calls Tryz.prog 69 #[.pointer (some ⟨rb, 0, none⟩), .slice p keep.length c] w (CPost w rb R (crashD D keep)) := by
  have hD := crash_zero keep (show D.files = [] from h.fs)
  have H := Lib.hid h
  have HE := Lib.hid (crash_end (o' := none) (x := .slice none 0 0) h ⟨0, 0, rfl, (fun F hF => by cases hF), Below.refl _ _⟩ hD (fun F hF => by cases hF))
  have c1 : w.cell? ⟨rb, 1, none⟩ = some (.slice none 0 0) := h.c1
  have c2 := h.c2
  have f1 := h.f1
  have f2 := h.f2
  clear h hD
  go_enter Tryz.func69, Tryz.ntmps69
  go_wp2
  go_loopw [4, 5, 6] (fun x i k wr => x = .slice none 0 0 ∧ i = .int .i64 0 ∧ k = .int .i64 0 ∧ wr = w) (fun _ _ _ _ => 0)
  case atStart => exact ⟨rfl, rfl, rfl, rfl⟩
  case round =>
    obtain ⟨rfl, rfl, rfl, rfl⟩ := hrel
    go_wp2
    refine bodyPost_end (results_none rfl _ _ _) rfl ?_
    exact HE.out

set_option maxRecDepth 100000 in
set_option maxHeartbeats 4000000 in
theorem RCrashA_f {w : World} {rb g cap : Nat} {D : DiskD} {F : FileD} {R : Nat → Prop} (h : RDAt w rb g cap D (some F) R) (p : Option Addr) (keep : List Int) (c : Nat) (ha : F.bytes.length - F.sure = 0 ∧ F.fresh = false) : Calls Tryz.prog 69 #[.pointer (some ⟨rb, 0, none⟩), .slice p keep.length c] w (CPost w rb R (crashD D keep)) := by
  have hsu := h.fine.sure (keyS nA, F) (mem_of_look h.look)
  have hln := total_mem (mem_of_look h.look)
  have hft := h.fine.fits
  have hsh := h.fine.short (mem_of_look h.look)
  simp only at hsu hln hsh
  have hD : crashD D keep = ⟨D.room, ((some F : Option FileD).map fun F => (keyS nA, F)).toList, false, 0⟩ := by
    rw [crash_one keep (show D.files = [(keyS nA, F)] from h.fs), crash1_a ha]
    rfl
  have H := Lib.hid h
  have HE := Lib.hid (fun wr x (hr : CRes w (some F) x wr) => crash_end h hr hD (fun G hG => by
    first
      | (injection hG with hG; subst hG; simp only [List.length_take]; omega)
      | (injection hG with hG; subst hG; exact ⟨hsu, by omega⟩)
      | cases hG))
  have c1 : w.cell? ⟨rb, 1, none⟩ = some (.slice (some ⟨g, 0, none⟩) 1 cap) := h.c1
  have hrb := h.old _ h.mine
  have hgl := h.old _ (h.file F rfl).2.2.1
  obtain ⟨e0, e1, e2, e3, -, -, -, -⟩ := h.cells
  clear h hD hln hft
  have HA := Lib.hid ha
  rw [ha.1] at e2
  rw [ha.2] at e3
  replace e2 : w.cell? ⟨g, 2, none⟩ = some (.int .i64 0) := e2
  clear ha
  go_enter Tryz.func69, Tryz.ntmps69
  go_wp2
  go_loopw [4, 5, 6] (fun x i k wr => (x = .slice none 0 0 ∧ i = .int .i64 0 ∧ k = .int .i64 0 ∧ wr = w) ∨ (k = .int .i64 1 ∧ CRes w (some F) x wr)) (fun _ _ k _ => 1 - (intOf k).toNat)
  case atStart => exact .inl ⟨rfl, rfl, rfl, rfl⟩
  case round =>
    rcases hrel with ⟨rfl, rfl, rfl, rfl⟩ | ⟨rfl, hres⟩
    · clear HE
      go_upto_region 6 with fail
      have hal : Below wr.heap.size wr (wr.alloc (.cells #[.string (B nA), .string (B F.bytes), .int .i64 0, .bool false] 72)) := (Below.refl _ _).alloc (Nat.le_refl _) _
      have hd := cells_made wr #[.string (B nA), .string (B F.bytes), .int .i64 0, .bool false] 72
      have hz1 := alloc_more wr (.cells #[.string (B nA), .string (B F.bytes), .int .i64 0, .bool false] 72)
      have d0 : (wr.alloc (.cells #[.string (B nA), .string (B F.bytes), .int .i64 0, .bool false] 72)).cell? ⟨wr.heap.size, 0, none⟩ = some (.string (B nA)) := (hd 0 (by show 0 < 4; omega)).1
      have d1 : (wr.alloc (.cells #[.string (B nA), .string (B F.bytes), .int .i64 0, .bool false] 72)).cell? ⟨wr.heap.size, 1, none⟩ = some (.string (B F.bytes)) := (hd 1 (by show 1 < 4; omega)).1
      have d2 : (wr.alloc (.cells #[.string (B nA), .string (B F.bytes), .int .i64 0, .bool false] 72)).cell? ⟨wr.heap.size, 2, none⟩ = some (.int .i64 0) := (hd 2 (by show 2 < 4; omega)).1
      have d3 : (wr.alloc (.cells #[.string (B nA), .string (B F.bytes), .int .i64 0, .bool false] 72)).cell? ⟨wr.heap.size, 3, none⟩ = some (.bool false) := (hd 3 (by show 3 < 4; omega)).1
      generalize wr.alloc (.cells #[.string (B nA), .string (B F.bytes), .int .i64 0, .bool false] 72) = w1 at *
      obtain ⟨g5, cap5, w5, hr5, hc5, hb5, hg5, hg5l, hcap⟩ := append_file w1 F.bytes 0 false
      rw [hz1] at hr5
      have HR5 := Lib.hid hr5
      have HRES := Lib.hid (show CRes wr (some F) (.slice (some ⟨g5, 0, none⟩) 1 cap5) w5 from ⟨g5, cap5, rfl, (fun G hG => by
        injection hG with hG
        subst hG
        refine ⟨hc5.congr fun j hj => ?_, by omega, hg5l, hcap⟩
        have : j = 0 ∨ j = 1 ∨ j = 2 ∨ j = 3 := by omega
        rcases this with rfl | rfl | rfl | rfl
        · rfl
        · rfl
        · show Value.int .i64 0 = Value.int .i64 _
          rw [HA.out.1]; rfl
        · show Value.bool false = Value.bool _
          rw [HA.out.2]), hal.trans (hb5.mono (by omega))⟩)
      clear hal hd hr5 hc5 hb5 hg5 hg5l hcap
      clear e0 e1 e2 e3
      go_wp2_with (at_builtin; refine wpList_append_run rfl _ _ _ rfl rfl rfl HR5.out ?_)
      go_roundw
      case rel => exact .inr ⟨by go_num, HRES.out⟩
      case measure => simp [intOf]
    · have HX := Lib.hid (HE.out _ _ hres)
      obtain ⟨g2, cap2, rfl, -, hb⟩ := hres
      have hh := H.out.later hb
      have c1r : wr.cell? ⟨rb, 1, none⟩ = some (.slice (some ⟨g, 0, none⟩) 1 cap) := hh.c1
      have c2r := hh.c2
      have f1r := hh.f1
      have f2r := hh.f2
      simp only [rv] at HX ⊢
      clear hh HE c1 e0 e1 e2 e3 hb
      go_wp2
      refine bodyPost_end (results_none rfl _ _ _) rfl ?_
      exact HX.out
end Go.Proofs.YtpiaplgbpjgjiaaGreatDoor.Lp
