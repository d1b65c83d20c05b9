/-
  The document's disk (layer 7) with one file at most, "a": the walk of Crash, a new file with loose bytes. Condition: the disk is the call's own.
-/
import Derived.Test.YtpiaplgbpjgjiaaGreatDoorZLpRefK
open Go Go.RowKit
namespace Go.Proofs.YtpiaplgbpjgjiaaGreatDoor.Lp
open Base Mp Dk Frame Lg

set_option maxRecDepth 100000 in
set_option maxHeartbeats 4000000 in
theorem RCrashTNempty_f {w : World} {rb g cap : Nat} {D : DiskD} {F : FileD} {R : Nat → Prop} (h : RDAt w rb g cap D (some F) R) (p : Option Addr) (keep : List Int) (c : Nat) (hfr : F.fresh = true) (hz : F.bytes.length - F.sure ≠ 0) (hke : keep = []) : Calls Tryz.prog 69 #[.pointer (some ⟨rb, 0, none⟩), .slice p keep.length c] w (CPost w rb R (crashD D keep)) := by
  have hsu := h.fine.sure (keyS nA, F) (mem_of_look h.look)
  have hln := total_mem (mem_of_look h.look)
  have hft := h.fine.fits
  have hsh := h.fine.short (mem_of_look h.look)
  simp only at hsu hln hsh
  have hD : crashD D keep = ⟨D.room, ((none : Option FileD).map fun F => (keyS nA, F)).toList, false, 0⟩ := by
    rw [crash_one keep (show D.files = [(keyS nA, F)] from h.fs), crash1_b ⟨hfr, by rw [hke]; decide⟩]
    rfl
  have H := Lib.hid h
  have HE := Lib.hid (fun wr x (hr : CRes w (none) x wr) => crash_end h hr hD (fun G hG => by
    first
      | (injection hG with hG; subst hG; simp only [List.length_take]; omega)
      | (injection hG with hG; subst hG; exact ⟨hsu, by omega⟩)
      | cases hG))
  have c1 : w.cell? ⟨rb, 1, none⟩ = some (.slice (some ⟨g, 0, none⟩) 1 cap) := h.c1
  have hrb := h.old _ h.mine
  have hgl := h.old _ (h.file F rfl).2.2.1
  obtain ⟨e0, e1, e2, e3, -, -, -, -⟩ := h.cells
  clear h hD hln hft
  rw [hfr] at e3
  generalize hzl : F.bytes.length - F.sure = zl at *
  have qz : ((zl : Int) == 0) = false := by simpa using hz
  have eS : IntKind.i64.wrap ((F.bytes.length : Int) - (zl : Int)) = (F.sure : Int) := by rw [IntKind.wrap_i64]; omega
  have zsm : zl ≤ 4194304 := by omega
  subst hke
  simp only [List.length_nil]
  go_enter Tryz.func69, Tryz.ntmps69
  go_wp2
  go_loopw [4, 5, 6] (fun x i k wr => (x = .slice none 0 0 ∧ i = .int .i64 0 ∧ k = .int .i64 0 ∧ wr = w) ∨ (k = .int .i64 1 ∧ CRes w (none) x wr)) (fun _ _ k _ => 1 - (intOf k).toNat)
  case atStart => exact .inl ⟨rfl, rfl, rfl, rfl⟩
  case round =>
    rcases hrel with ⟨rfl, rfl, rfl, rfl⟩ | ⟨rfl, hres⟩
    · clear HE
      go_upto_region 6 with fail
      have hal : Below wr.heap.size wr (wr.alloc (.cells #[.string (B nA), .string (B F.bytes), .int .i64 (zl : Int), .bool true] 72)) := (Below.refl _ _).alloc (Nat.le_refl _) _
      have hd := cells_made wr #[.string (B nA), .string (B F.bytes), .int .i64 (zl : Int), .bool true] 72
      have hz1 := alloc_more wr (.cells #[.string (B nA), .string (B F.bytes), .int .i64 (zl : Int), .bool true] 72)
      have d0 : (wr.alloc (.cells #[.string (B nA), .string (B F.bytes), .int .i64 (zl : Int), .bool true] 72)).cell? ⟨wr.heap.size, 0, none⟩ = some (.string (B nA)) := (hd 0 (by show 0 < 4; omega)).1
      have d1 : (wr.alloc (.cells #[.string (B nA), .string (B F.bytes), .int .i64 (zl : Int), .bool true] 72)).cell? ⟨wr.heap.size, 1, none⟩ = some (.string (B F.bytes)) := (hd 1 (by show 1 < 4; omega)).1
      have d2 : (wr.alloc (.cells #[.string (B nA), .string (B F.bytes), .int .i64 (zl : Int), .bool true] 72)).cell? ⟨wr.heap.size, 2, none⟩ = some (.int .i64 (zl : Int)) := (hd 2 (by show 2 < 4; omega)).1
      have d3 : (wr.alloc (.cells #[.string (B nA), .string (B F.bytes), .int .i64 (zl : Int), .bool true] 72)).cell? ⟨wr.heap.size, 3, none⟩ = some (.bool true) := (hd 3 (by show 3 < 4; omega)).1
      generalize wr.alloc (.cells #[.string (B nA), .string (B F.bytes), .int .i64 (zl : Int), .bool true] 72) = w1 at *
      have HRES := Lib.hid (show CRes wr none (.slice none 0 0) w1 from ⟨0, 0, rfl, (fun G hG => by cases hG), hal⟩)
      clear hal hd e0 e1 e2 e3
      go_wp2
      go_roundw
      case rel => exact .inr ⟨by go_num, HRES.out⟩
      case measure => simp [intOf]
    · have HX := Lib.hid (HE.out _ _ hres)
      obtain ⟨g2, cap2, rfl, -, hb⟩ := hres
      have hh := H.out.later hb
      have c1r : wr.cell? ⟨rb, 1, none⟩ = some (.slice (some ⟨g, 0, none⟩) 1 cap) := hh.c1
      have c2r := hh.c2
      have f1r := hh.f1
      have f2r := hh.f2
      simp only [rv] at HX ⊢
      clear hh HE c1 e0 e1 e2 e3 hb
      go_wp2
      refine bodyPost_end (results_none rfl _ _ _) rfl ?_
      exact HX.out
set_option maxRecDepth 100000 in
set_option maxHeartbeats 4000000 in
theorem RCrashTNneg_f {w : World} {rb g cap : Nat} {D : DiskD} {F : FileD} {R : Nat → Prop} (h : RDAt w rb g cap D (some F) R) (p : Option Addr) (keep : List Int) (c : Nat) (hfr : F.fresh = true) (hz : F.bytes.length - F.sure ≠ 0) (q : Int) (hx : keep.headD (-1) = q) (hxn : q < 0) (hkl : 0 < keep.length) (hka : IntsAt w p keep) : Calls Tryz.prog 69 #[.pointer (some ⟨rb, 0, none⟩), .slice p keep.length c] w (CPost w rb R (crashD D keep)) := by
  have hsu := h.fine.sure (keyS nA, F) (mem_of_look h.look)
  have hln := total_mem (mem_of_look h.look)
  have hft := h.fine.fits
  have hsh := h.fine.short (mem_of_look h.look)
  simp only at hsu hln hsh
  have hD : crashD D keep = ⟨D.room, ((none : Option FileD).map fun F => (keyS nA, F)).toList, false, 0⟩ := by
    rw [crash_one keep (show D.files = [(keyS nA, F)] from h.fs), crash1_b ⟨hfr, by rw [hx]; omega⟩]
    rfl
  have H := Lib.hid h
  have HE := Lib.hid (fun wr x (hr : CRes w (none) x wr) => crash_end h hr hD (fun G hG => by
    first
      | (injection hG with hG; subst hG; simp only [List.length_take]; omega)
      | (injection hG with hG; subst hG; exact ⟨hsu, by omega⟩)
      | cases hG))
  have c1 : w.cell? ⟨rb, 1, none⟩ = some (.slice (some ⟨g, 0, none⟩) 1 cap) := h.c1
  have hrb := h.old _ h.mine
  have hgl := h.old _ (h.file F rfl).2.2.1
  obtain ⟨e0, e1, e2, e3, -, -, -, -⟩ := h.cells
  clear h hD hln hft
  rw [hfr] at e3
  generalize hzl : F.bytes.length - F.sure = zl at *
  have qz : ((zl : Int) == 0) = false := by simpa using hz
  have eS : IntKind.i64.wrap ((F.bytes.length : Int) - (zl : Int)) = (F.sure : Int) := by rw [IntKind.wrap_i64]; omega
  have zsm : zl ≤ 4194304 := by omega
  obtain ⟨gk, ok, rfl, kc⟩ := hka 0 hkl
  have hk0 : keep[0] = keep.headD (-1) := by cases keep with | nil => simp at hkl | cons a r => rfl
  rw [hk0, hx, Nat.add_zero] at kc
  have hgk := lt_of_cell kc
  have tkl : (0 : Int) < (keep.length : Int) := by omega
  clear hk0 hka hx
  have qn : decide (q < 0) = true := by simpa using hxn
  go_enter Tryz.func69, Tryz.ntmps69
  go_wp2
  go_loopw [4, 5, 6] (fun x i k wr => (x = .slice none 0 0 ∧ i = .int .i64 0 ∧ k = .int .i64 0 ∧ wr = w) ∨ (k = .int .i64 1 ∧ CRes w (none) x wr)) (fun _ _ k _ => 1 - (intOf k).toNat)
  case atStart => exact .inl ⟨rfl, rfl, rfl, rfl⟩
  case round =>
    rcases hrel with ⟨rfl, rfl, rfl, rfl⟩ | ⟨rfl, hres⟩
    · clear HE
      go_upto_region 6 with fail
      have hal : Below wr.heap.size wr (wr.alloc (.cells #[.string (B nA), .string (B F.bytes), .int .i64 (zl : Int), .bool true] 72)) := (Below.refl _ _).alloc (Nat.le_refl _) _
      have hd := cells_made wr #[.string (B nA), .string (B F.bytes), .int .i64 (zl : Int), .bool true] 72
      have hz1 := alloc_more wr (.cells #[.string (B nA), .string (B F.bytes), .int .i64 (zl : Int), .bool true] 72)
      have d0 : (wr.alloc (.cells #[.string (B nA), .string (B F.bytes), .int .i64 (zl : Int), .bool true] 72)).cell? ⟨wr.heap.size, 0, none⟩ = some (.string (B nA)) := (hd 0 (by show 0 < 4; omega)).1
      have d1 : (wr.alloc (.cells #[.string (B nA), .string (B F.bytes), .int .i64 (zl : Int), .bool true] 72)).cell? ⟨wr.heap.size, 1, none⟩ = some (.string (B F.bytes)) := (hd 1 (by show 1 < 4; omega)).1
      have d2 : (wr.alloc (.cells #[.string (B nA), .string (B F.bytes), .int .i64 (zl : Int), .bool true] 72)).cell? ⟨wr.heap.size, 2, none⟩ = some (.int .i64 (zl : Int)) := (hd 2 (by show 2 < 4; omega)).1
      have d3 : (wr.alloc (.cells #[.string (B nA), .string (B F.bytes), .int .i64 (zl : Int), .bool true] 72)).cell? ⟨wr.heap.size, 3, none⟩ = some (.bool true) := (hd 3 (by show 3 < 4; omega)).1
      have kc1 := (hal.cell (p := ⟨gk, ok, none⟩) hgk).trans kc
      generalize wr.alloc (.cells #[.string (B nA), .string (B F.bytes), .int .i64 (zl : Int), .bool true] 72) = w1 at *
      have HRES := Lib.hid (show CRes wr none (.slice none 0 0) w1 from ⟨0, 0, rfl, (fun G hG => by cases hG), hal⟩)
      clear hal hd e0 e1 e2 e3
      go_wp2
      go_roundw
      case rel => exact .inr ⟨by go_num, HRES.out⟩
      case measure => simp [intOf]
    · have HX := Lib.hid (HE.out _ _ hres)
      obtain ⟨g2, cap2, rfl, -, hb⟩ := hres
      have hh := H.out.later hb
      have c1r : wr.cell? ⟨rb, 1, none⟩ = some (.slice (some ⟨g, 0, none⟩) 1 cap) := hh.c1
      have c2r := hh.c2
      have f1r := hh.f1
      have f2r := hh.f2
      simp only [rv] at HX ⊢
      clear hh HE c1 e0 e1 e2 e3 hb
      go_wp2
      refine bodyPost_end (results_none rfl _ _ _) rfl ?_
      exact HX.out
set_option maxRecDepth 100000 in
set_option maxHeartbeats 4000000 in
theorem RCrashTNmid_f {w : World} {rb g cap : Nat} {D : DiskD} {F : FileD} {R : Nat → Prop} (h : RDAt w rb g cap D (some F) R) (p : Option Addr) (keep : List Int) (c : Nat) (hfr : F.fresh = true) (hz : F.bytes.length - F.sure ≠ 0) (q : Nat) (hx : keep.headD (-1) = (q : Int)) (hxz : q ≤ F.bytes.length - F.sure) (hkl : 0 < keep.length) (hka : IntsAt w p keep) : Calls Tryz.prog 69 #[.pointer (some ⟨rb, 0, none⟩), .slice p keep.length c] w (CPost w rb R (crashD D keep)) := by
  have hsu := h.fine.sure (keyS nA, F) (mem_of_look h.look)
  have hln := total_mem (mem_of_look h.look)
  have hft := h.fine.fits
  have hsh := h.fine.short (mem_of_look h.look)
  simp only at hsu hln hsh
  have hD : crashD D keep = ⟨D.room, ((some ⟨F.bytes.take (F.sure + q), F.sure + q, false⟩ : Option FileD).map fun F => (keyS nA, F)).toList, false, 0⟩ := by
    rw [crash_one keep (show D.files = [(keyS nA, F)] from h.fs), crash1_c (fun e => by rw [hfr] at e; cases e.2) (fun e => by have := e.2; rw [hx] at this; omega) (F.sure + q) (by unfold keptOf; rw [hx]; omega)]
    rfl
  have H := Lib.hid h
  have HE := Lib.hid (fun wr x (hr : CRes w (some ⟨F.bytes.take (F.sure + q), F.sure + q, false⟩) x wr) => crash_end h hr hD (fun G hG => by
    first
      | (injection hG with hG; subst hG; simp only [List.length_take]; omega)
      | (injection hG with hG; subst hG; exact ⟨hsu, by omega⟩)
      | cases hG))
  have c1 : w.cell? ⟨rb, 1, none⟩ = some (.slice (some ⟨g, 0, none⟩) 1 cap) := h.c1
  have hrb := h.old _ h.mine
  have hgl := h.old _ (h.file F rfl).2.2.1
  obtain ⟨e0, e1, e2, e3, -, -, -, -⟩ := h.cells
  clear h hD hln hft
  rw [hfr] at e3
  generalize hzl : F.bytes.length - F.sure = zl at *
  have qz : ((zl : Int) == 0) = false := by simpa using hz
  have eS : IntKind.i64.wrap ((F.bytes.length : Int) - (zl : Int)) = (F.sure : Int) := by rw [IntKind.wrap_i64]; omega
  have zsm : zl ≤ 4194304 := by omega
  obtain ⟨gk, ok, rfl, kc⟩ := hka 0 hkl
  have hk0 : keep[0] = keep.headD (-1) := by cases keep with | nil => simp at hkl | cons a r => rfl
  rw [hk0, hx, Nat.add_zero] at kc
  have hgk := lt_of_cell kc
  have tkl : (0 : Int) < (keep.length : Int) := by omega
  clear hk0 hka hx
  have qn : ¬ ((q : Int) < 0) := by omega
  have qn2 : 0 ≤ (q : Int) := by omega
  have eA : IntKind.i64.wrap ((F.sure : Int) + min (max (q : Int) 0) (zl : Int)) = ((F.sure + q : Nat) : Int) := by rw [IntKind.wrap_i64]; omega
  have eA2 : IntKind.i64.wrap ((F.sure : Int) + min (q : Int) (zl : Int)) = ((F.sure + q : Nat) : Int) := by rw [IntKind.wrap_i64]; omega
  obtain ⟨kq, hkq⟩ : ∃ kq, F.sure + q = kq := ⟨_, rfl⟩
  rw [hkq] at HE eA eA2
  have tk0 : 0 ≤ ((kq : Nat) : Int) := by omega
  have tk1 : ((kq : Nat) : Int) ≤ (F.bytes.length : Int) := by omega
  go_enter Tryz.func69, Tryz.ntmps69
  go_wp2
  go_loopw [4, 5, 6] (fun x i k wr => (x = .slice none 0 0 ∧ i = .int .i64 0 ∧ k = .int .i64 0 ∧ wr = w) ∨ (k = .int .i64 1 ∧ CRes w (some ⟨F.bytes.take kq, kq, false⟩) x wr)) (fun _ _ k _ => 1 - (intOf k).toNat)
  case atStart => exact .inl ⟨rfl, rfl, rfl, rfl⟩
  case round =>
    rcases hrel with ⟨rfl, rfl, rfl, rfl⟩ | ⟨rfl, hres⟩
    · clear HE
      go_upto_region 6 with fail
      have hal : Below wr.heap.size wr (wr.alloc (.cells #[.string (B nA), .string (B F.bytes), .int .i64 (zl : Int), .bool true] 72)) := (Below.refl _ _).alloc (Nat.le_refl _) _
      have hd := cells_made wr #[.string (B nA), .string (B F.bytes), .int .i64 (zl : Int), .bool true] 72
      have hz1 := alloc_more wr (.cells #[.string (B nA), .string (B F.bytes), .int .i64 (zl : Int), .bool true] 72)
      have d0 : (wr.alloc (.cells #[.string (B nA), .string (B F.bytes), .int .i64 (zl : Int), .bool true] 72)).cell? ⟨wr.heap.size, 0, none⟩ = some (.string (B nA)) := (hd 0 (by show 0 < 4; omega)).1
      have d1 : (wr.alloc (.cells #[.string (B nA), .string (B F.bytes), .int .i64 (zl : Int), .bool true] 72)).cell? ⟨wr.heap.size, 1, none⟩ = some (.string (B F.bytes)) := (hd 1 (by show 1 < 4; omega)).1
      have d2 : (wr.alloc (.cells #[.string (B nA), .string (B F.bytes), .int .i64 (zl : Int), .bool true] 72)).cell? ⟨wr.heap.size, 2, none⟩ = some (.int .i64 (zl : Int)) := (hd 2 (by show 2 < 4; omega)).1
      have d3 : (wr.alloc (.cells #[.string (B nA), .string (B F.bytes), .int .i64 (zl : Int), .bool true] 72)).cell? ⟨wr.heap.size, 3, none⟩ = some (.bool true) := (hd 3 (by show 3 < 4; omega)).1
      have kc1 := (hal.cell (p := ⟨gk, ok, none⟩) hgk).trans kc
      generalize wr.alloc (.cells #[.string (B nA), .string (B F.bytes), .int .i64 (zl : Int), .bool true] 72) = w1 at *
      obtain ⟨g5, cap5, w5, hr5, hc5, hb5, hg5, hg5l, hcap⟩ := append_file w1.drew (F.bytes.take (kq)) 0 false
      rw [show w1.drew.heap.size = wr.heap.size + 1 from hz1] at hr5 hg5
      have HR5 := Lib.hid hr5
      have hb5s : Below wr.heap.size w1 w5 := Below.mono (B' := wr.heap.size) (show Below w1.heap.size w1 w5 from ⟨hb5.os, hb5.tape, hb5.output, hb5.size, hb5.block⟩) (by omega)
      have HRES := Lib.hid (show CRes wr (some ⟨F.bytes.take (kq), kq, false⟩) (.slice (some ⟨g5, 0, none⟩) 1 cap5) w5 from ⟨g5, cap5, rfl, (fun G hG => by
        injection hG with hG
        subst hG
        refine ⟨hc5.congr fun j hj => ?_, by omega, hg5l, hcap⟩
        have : j = 0 ∨ j = 1 ∨ j = 2 ∨ j = 3 := by omega
        rcases this with rfl | rfl | rfl | rfl
        · rfl
        · rfl
        · show Value.int .i64 0 = Value.int .i64 _
          simp only [List.length_take]
          congr 1
          omega
        · rfl), hal.trans hb5s⟩)
      have x0 : w5.cell? ⟨wr.heap.size, 0, none⟩ = some (.string (B nA)) := (hb5.cell (p := ⟨wr.heap.size, 0, none⟩) (by show wr.heap.size < w1.heap.size; omega)).trans d0
      have x1 : w5.cell? ⟨wr.heap.size, 1, none⟩ = some (.string (B F.bytes)) := (hb5.cell (p := ⟨wr.heap.size, 1, none⟩) (by show wr.heap.size < w1.heap.size; omega)).trans d1
      have x2 : w5.cell? ⟨wr.heap.size, 2, none⟩ = some (.int .i64 (zl : Int)) := (hb5.cell (p := ⟨wr.heap.size, 2, none⟩) (by show wr.heap.size < w1.heap.size; omega)).trans d2
      clear hal hd hr5 hc5 hb5 hb5s hg5 hg5l hcap e0 e1 e2 e3
      go_upto_region 14 with fail
      go_region_held3 (fun W => W.cell? ⟨wr.heap.size, 0, none⟩ = some (.string (B nA)) ∧ W.cell? ⟨wr.heap.size, 1, none⟩ = some (.string (B F.bytes)) ∧ W.cell? ⟨wr.heap.size, 2, none⟩ = some (.int .i64 (zl : Int))) (first | go_keep | exact ⟨x0, x1, x2⟩) ((first | (refine step_append_run (by rfl) _ _ _ (by with_reducible rfl) (by rfl) (by rfl) HR5.out ?_) | fail))
      all_goals go_wp2
      go_roundw
      case rel => exact .inr ⟨by go_num, HRES.out⟩
      case measure => simp [intOf]
    · have HX := Lib.hid (HE.out _ _ hres)
      obtain ⟨g2, cap2, rfl, -, hb⟩ := hres
      have hh := H.out.later hb
      have c1r : wr.cell? ⟨rb, 1, none⟩ = some (.slice (some ⟨g, 0, none⟩) 1 cap) := hh.c1
      have c2r := hh.c2
      have f1r := hh.f1
      have f2r := hh.f2
      simp only [rv] at HX ⊢
      clear hh HE c1 e0 e1 e2 e3 hb
      go_wp2
      refine bodyPost_end (results_none rfl _ _ _) rfl ?_
      exact HX.out
set_option maxRecDepth 100000 in
set_option maxHeartbeats 4000000 in
theorem RCrashTNbig_f {w : World} {rb g cap : Nat} {D : DiskD} {F : FileD} {R : Nat → Prop} (h : RDAt w rb g cap D (some F) R) (p : Option Addr) (keep : List Int) (c : Nat) (hfr : F.fresh = true) (hz : F.bytes.length - F.sure ≠ 0) (q : Nat) (hx : keep.headD (-1) = (q : Int)) (hxz : F.bytes.length - F.sure < q) (hkl : 0 < keep.length) (hka : IntsAt w p keep) : Calls Tryz.prog 69 #[.pointer (some ⟨rb, 0, none⟩), .slice p keep.length c] w (CPost w rb R (crashD D keep)) := by
  have hsu := h.fine.sure (keyS nA, F) (mem_of_look h.look)
  have hln := total_mem (mem_of_look h.look)
  have hft := h.fine.fits
  have hsh := h.fine.short (mem_of_look h.look)
  simp only at hsu hln hsh
  have hD : crashD D keep = ⟨D.room, ((some ⟨F.bytes.take (F.bytes.length), F.bytes.length, false⟩ : Option FileD).map fun F => (keyS nA, F)).toList, false, 0⟩ := by
    rw [crash_one keep (show D.files = [(keyS nA, F)] from h.fs), crash1_c (fun e => by rw [hfr] at e; cases e.2) (fun e => by have := e.2; rw [hx] at this; omega) (F.bytes.length) (by unfold keptOf; rw [hx]; omega)]
    rfl
  have H := Lib.hid h
  have HE := Lib.hid (fun wr x (hr : CRes w (some ⟨F.bytes.take (F.bytes.length), F.bytes.length, false⟩) x wr) => crash_end h hr hD (fun G hG => by
    first
      | (injection hG with hG; subst hG; simp only [List.length_take]; omega)
      | (injection hG with hG; subst hG; exact ⟨hsu, by omega⟩)
      | cases hG))
  have c1 : w.cell? ⟨rb, 1, none⟩ = some (.slice (some ⟨g, 0, none⟩) 1 cap) := h.c1
  have hrb := h.old _ h.mine
  have hgl := h.old _ (h.file F rfl).2.2.1
  obtain ⟨e0, e1, e2, e3, -, -, -, -⟩ := h.cells
  clear h hD hln hft
  rw [hfr] at e3
  generalize hzl : F.bytes.length - F.sure = zl at *
  have qz : ((zl : Int) == 0) = false := by simpa using hz
  have eS : IntKind.i64.wrap ((F.bytes.length : Int) - (zl : Int)) = (F.sure : Int) := by rw [IntKind.wrap_i64]; omega
  have zsm : zl ≤ 4194304 := by omega
  obtain ⟨gk, ok, rfl, kc⟩ := hka 0 hkl
  have hk0 : keep[0] = keep.headD (-1) := by cases keep with | nil => simp at hkl | cons a r => rfl
  rw [hk0, hx, Nat.add_zero] at kc
  have hgk := lt_of_cell kc
  have tkl : (0 : Int) < (keep.length : Int) := by omega
  clear hk0 hka hx
  have qn : ¬ ((q : Int) < 0) := by omega
  have qn2 : 0 ≤ (q : Int) := by omega
  have eA : IntKind.i64.wrap ((F.sure : Int) + min (max (q : Int) 0) (zl : Int)) = ((F.bytes.length : Nat) : Int) := by rw [IntKind.wrap_i64]; omega
  have eA2 : IntKind.i64.wrap ((F.sure : Int) + min (q : Int) (zl : Int)) = ((F.bytes.length : Nat) : Int) := by rw [IntKind.wrap_i64]; omega
  have tk0 : 0 ≤ ((F.bytes.length : Nat) : Int) := by omega
  have tk1 : ((F.bytes.length : Nat) : Int) ≤ (F.bytes.length : Int) := by omega
  go_enter Tryz.func69, Tryz.ntmps69
  go_wp2
  go_loopw [4, 5, 6] (fun x i k wr => (x = .slice none 0 0 ∧ i = .int .i64 0 ∧ k = .int .i64 0 ∧ wr = w) ∨ (k = .int .i64 1 ∧ CRes w (some ⟨F.bytes.take (F.bytes.length), F.bytes.length, false⟩) x wr)) (fun _ _ k _ => 1 - (intOf k).toNat)
  case atStart => exact .inl ⟨rfl, rfl, rfl, rfl⟩
  case round =>
    rcases hrel with ⟨rfl, rfl, rfl, rfl⟩ | ⟨rfl, hres⟩
    · clear HE
      go_upto_region 6 with fail
      have hal : Below wr.heap.size wr (wr.alloc (.cells #[.string (B nA), .string (B F.bytes), .int .i64 (zl : Int), .bool true] 72)) := (Below.refl _ _).alloc (Nat.le_refl _) _
      have hd := cells_made wr #[.string (B nA), .string (B F.bytes), .int .i64 (zl : Int), .bool true] 72
      have hz1 := alloc_more wr (.cells #[.string (B nA), .string (B F.bytes), .int .i64 (zl : Int), .bool true] 72)
      have d0 : (wr.alloc (.cells #[.string (B nA), .string (B F.bytes), .int .i64 (zl : Int), .bool true] 72)).cell? ⟨wr.heap.size, 0, none⟩ = some (.string (B nA)) := (hd 0 (by show 0 < 4; omega)).1
      have d1 : (wr.alloc (.cells #[.string (B nA), .string (B F.bytes), .int .i64 (zl : Int), .bool true] 72)).cell? ⟨wr.heap.size, 1, none⟩ = some (.string (B F.bytes)) := (hd 1 (by show 1 < 4; omega)).1
      have d2 : (wr.alloc (.cells #[.string (B nA), .string (B F.bytes), .int .i64 (zl : Int), .bool true] 72)).cell? ⟨wr.heap.size, 2, none⟩ = some (.int .i64 (zl : Int)) := (hd 2 (by show 2 < 4; omega)).1
      have d3 : (wr.alloc (.cells #[.string (B nA), .string (B F.bytes), .int .i64 (zl : Int), .bool true] 72)).cell? ⟨wr.heap.size, 3, none⟩ = some (.bool true) := (hd 3 (by show 3 < 4; omega)).1
      have kc1 := (hal.cell (p := ⟨gk, ok, none⟩) hgk).trans kc
      generalize wr.alloc (.cells #[.string (B nA), .string (B F.bytes), .int .i64 (zl : Int), .bool true] 72) = w1 at *
      obtain ⟨g5, cap5, w5, hr5, hc5, hb5, hg5, hg5l, hcap⟩ := append_file w1.drew F.bytes 0 false
      rw [show w1.drew.heap.size = wr.heap.size + 1 from hz1] at hr5 hg5
      have HR5 := Lib.hid hr5
      have hb5s : Below wr.heap.size w1 w5 := Below.mono (B' := wr.heap.size) (show Below w1.heap.size w1 w5 from ⟨hb5.os, hb5.tape, hb5.output, hb5.size, hb5.block⟩) (by omega)
      have HRES := Lib.hid (show CRes wr (some ⟨F.bytes.take (F.bytes.length), F.bytes.length, false⟩) (.slice (some ⟨g5, 0, none⟩) 1 cap5) w5 from ⟨g5, cap5, rfl, (fun G hG => by
        injection hG with hG
        subst hG
        refine ⟨hc5.congr fun j hj => ?_, by omega, hg5l, hcap⟩
        have : j = 0 ∨ j = 1 ∨ j = 2 ∨ j = 3 := by omega
        rcases this with rfl | rfl | rfl | rfl
        · rfl
        · show Value.string (B F.bytes) = Value.string (B (F.bytes.take F.bytes.length)); rw [List.take_length]
        · show Value.int .i64 0 = Value.int .i64 _
          simp only [List.length_take]
          congr 1
          omega
        · rfl), hal.trans hb5s⟩)
      have x0 : w5.cell? ⟨wr.heap.size, 0, none⟩ = some (.string (B nA)) := (hb5.cell (p := ⟨wr.heap.size, 0, none⟩) (by show wr.heap.size < w1.heap.size; omega)).trans d0
      have x1 : w5.cell? ⟨wr.heap.size, 1, none⟩ = some (.string (B F.bytes)) := (hb5.cell (p := ⟨wr.heap.size, 1, none⟩) (by show wr.heap.size < w1.heap.size; omega)).trans d1
      have x2 : w5.cell? ⟨wr.heap.size, 2, none⟩ = some (.int .i64 (zl : Int)) := (hb5.cell (p := ⟨wr.heap.size, 2, none⟩) (by show wr.heap.size < w1.heap.size; omega)).trans d2
      clear hal hd hr5 hc5 hb5 hb5s hg5 hg5l hcap e0 e1 e2 e3
      go_upto_region 14 with fail
      go_region_held3 (fun W => W.cell? ⟨wr.heap.size, 0, none⟩ = some (.string (B nA)) ∧ W.cell? ⟨wr.heap.size, 1, none⟩ = some (.string (B F.bytes)) ∧ W.cell? ⟨wr.heap.size, 2, none⟩ = some (.int .i64 (zl : Int))) (first | go_keep | exact ⟨x0, x1, x2⟩) ((first | (refine step_append_run (by rfl) _ _ _ (by with_reducible rfl) (by rfl) (by rfl) HR5.out ?_) | fail))
      all_goals go_wp2
      go_roundw
      case rel => exact .inr ⟨by go_num, HRES.out⟩
      case measure => simp [intOf]
    · have HX := Lib.hid (HE.out _ _ hres)
      obtain ⟨g2, cap2, rfl, -, hb⟩ := hres
      have hh := H.out.later hb
      have c1r : wr.cell? ⟨rb, 1, none⟩ = some (.slice (some ⟨g, 0, none⟩) 1 cap) := hh.c1
      have c2r := hh.c2
      have f1r := hh.f1
      have f2r := hh.f2
      simp only [rv] at HX ⊢
      clear hh HE c1 e0 e1 e2 e3 hb
      go_wp2
      refine bodyPost_end (results_none rfl _ _ _) rfl ?_
      exact HX.out

end Go.Proofs.YtpiaplgbpjgjiaaGreatDoor.Lp
