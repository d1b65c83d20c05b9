/-
  The document's counters (layer 12): the walks of of, put, Clean.
-/
import Derived.Test.YtloackmpmhgkeaaCntRefM
open Go Go.RowKit Go.Maps
namespace Go.Proofs.Ytloackmpmhgkeaa.Cnt
open Base Mp

def hasT (l : List CntD) (k : Key) (i : Nat) : Bool := (l.take i).any fun c => c.by_ == k
theorem hasT_succ (l : List CntD) (k : Key) (i : Nat) (h : i < l.length) : hasT l k (i + 1) = (hasT l k i || (l[i]).by_ == k) := by
  unfold hasT
  rw [List.take_succ_eq_append_getElem h, List.any_append]
  simp
def tri (k : Key) (a b : Nat) (j : Nat) : Value := if j = 0 then .string (B k) else if j = 1 then .int .u64 (a : Int) else .int .u64 (b : Int)
theorem mx_bound {l : List CntD} (h : Oks l) (k : Key) : mxP l k < 2 ^ 64 ∧ mxM l k < 2 ^ 64 := by
  have := h.inU.get (keyS k)
  rw [← fOf_get] at this
  exact this
theorem CntAt.below' {w w' : World} {b o : Nat} {c : CntD} (h : CntAt w b o c) (hlt : b < w.heap.size) (hb : Below w.heap.size w w') : CntAt w' b o c := by
  have key : ∀ j v, w.cell? ⟨b, j, none⟩ = some v → w'.cell? ⟨b, j, none⟩ = some v := fun j v hc => (World.cell?_of_block (a := ⟨b, j, none⟩) (hb.block b hlt)).trans hc
  exact ⟨key _ _ h.c0, key _ _ h.c1, key _ _ h.c2⟩

set_option maxHeartbeats 2000000 in
theorem Of_f (w : World) (p : Option Addr) (cap : Nat) (l : List CntD) (k : Key) (h : CntsArg w p l) (hn : l.length ≤ 4398046511103) :
    Calls Try.prog 25 #[.slice p l.length cap, .string (B k)] w fun e w' => e = .returned (.tuple #[cntV ⟨k, (fOf l k).1, (fOf l k).2⟩, .bool (hasT l k l.length)]) ∧ Below w.heap.size w w' := by
  have HA := Lib.hid h
  clear h
  have hmax : ∀ (a b : Nat) (W : World), (Builtin.max_ #[41, 41] 41 #[.int .u64 (a : Int), .int .u64 (b : Int)]).run Try.prog W = .ok (.int .u64 ((max a b : Nat) : Int)) W := fun a b W => by
    have e : (if (b : Int) > (a : Int) then (b : Int) else a) = ((max a b : Nat) : Int) := by split <;> omega
    rw [← e]
    rfl
  have HMAX := Lib.hid hmax
  clear hmax
  go_enter Try.func25, Try.ntmps25
  go_wp2_with fail
  have hsz1 : (w.alloc (.cells #[.string ⟨#[]⟩, .int .u64 0, .int .u64 0] 43)).heap.size = w.heap.size + 1 := alloc_more _ _
  have hR0 : CellsAt (w.alloc (.cells #[.string ⟨#[]⟩, .int .u64 0, .int .u64 0] 43)) w.heap.size 3 (tri [] 0 0) :=
    (cells_made w #[.string ⟨#[]⟩, .int .u64 0, .int .u64 0] 43).congr fun j hj => by
      have : j = 0 ∨ j = 1 ∨ j = 2 := by have : j < 3 := hj; omega
      rcases this with rfl | rfl | rfl <;> rfl
  have hS0 := cells_made (w.alloc (.cells #[.string ⟨#[]⟩, .int .u64 0, .int .u64 0] 43)) #[.string (B k), .int .u64 0, .int .u64 0] 43
  have hB0 : Below w.heap.size w (w.alloc (.cells #[.string ⟨#[]⟩, .int .u64 0, .int .u64 0] 43)) := (Below.refl _ _).alloc (Nat.le_refl _) _
  have hB1 := hB0.alloc hB0.size (.cells #[.string (B k), .int .u64 0, .int .u64 0] 43)
  rw [hsz1] at hS0
  replace hS0 := hS0.congr (g := tri k 0 0) fun j hj => by
    have : j = 0 ∨ j = 1 ∨ j = 2 := by have : j < 3 := hj; omega
    rcases this with rfl | rfl | rfl <;> rfl
  replace hR0 := hR0.below ((Below.refl _ (w.alloc (.cells #[.string ⟨#[]⟩, .int .u64 0, .int .u64 0] 43))).alloc (Nat.le_refl _) (.cells #[.string (B k), .int .u64 0, .int .u64 0] 43)) (by rw [hsz1]; omega)
  have HR0 := Lib.hid hR0
  have HS0 := Lib.hid (show CellsAt _ (w.heap.size + 1) 3 (tri k 0 0) from hS0)
  have HB1 := Lib.hid hB1
  clear hsz1 hR0 hS0 hB0 hB1
  generalize (w.alloc (.cells #[.string ⟨#[]⟩, .int .u64 0, .int .u64 0] 43)).alloc (.cells #[.string (B k), .int .u64 0, .int .u64 0] 43) = w0 at *
  go_loopw [7, 8] (fun v u wr => ∃ i : Nat, v = .bool (hasT l k i) ∧ u = .int .i64 (i : Int) ∧ i ≤ l.length ∧ CellsAt wr w.heap.size 3 (tri [] 0 0) ∧ CellsAt wr (w.heap.size + 1) 3 (tri k (mxP (l.take i) k) (mxM (l.take i) k)) ∧ Below w.heap.size w wr) (fun _ u _ => l.length - (intOf u).toNat)
  case atStart => exact ⟨0, rfl, rfl, Nat.zero_le _, HR0.out, HS0.out, HB1.out⟩
  case round =>
    obtain ⟨i, rfl, rfl, hi, hr, hs, hb⟩ := hrel
    clear HR0 HS0 HB1
    have HR := Lib.hid hr
    have HS := Lib.hid hs
    have HB := Lib.hid hb
    by_cases hlt : i < l.length
    · have HLT := Lib.hid hlt
      obtain ⟨bb, oo, rfl, hca, hok⟩ := HA.out i hlt
      have hbbw : bb < w.heap.size := lt_of_cell hca.c0
      have hbn : ∀ x, x = w.heap.size + 1 → bb ≠ x := fun x hx => by omega
      have HTK := Lib.hid (show mxP (l.take (i + 1)) k = max (mxP (l.take i) k) (mxP [l[i]] k) ∧ mxM (l.take (i + 1)) k = max (mxM (l.take i) k) (mxM [l[i]] k) by
        rw [List.take_succ_eq_append_getElem hlt, mxP_append, mxM_append]; exact ⟨rfl, rfl⟩)
      have HHS := Lib.hid (hasT_succ l k i hlt)
      have HOT := Lib.hid (show Oks (l.take i) from fun c hc => HA.out.ok c (List.mem_of_mem_take hc))
      have HCA := Lib.hid hca
      have HOK := Lib.hid hok
      have s0 := (hs 0 (by omega)).1
      have s1 := (hs 1 (by omega)).1
      have s2 := (hs 2 (by omega)).1
      have f1 := (hs 1 (by omega)).2
      have f2 := (hs 2 (by omega)).2
      simp only [tri, if_true, Nat.one_ne_zero, if_false, show ¬ (2 = 0) by omega, show ¬ (2 = 1) by omega] at s0 s1 s2
      obtain ⟨c0, c1, c2⟩ := hca.below hb
      have i0 : 0 ≤ (i : Int) := by omega
      have i1 : (i : Int) < (l.length : Int) := by omega
      clear hr hs hb hca hok
      obtain ⟨hP1, hM1⟩ := mx_bound HOT.out k
      generalize mxP (l.take i) k = P at *
      generalize mxM (l.take i) k = M at *
      generalize l[i] = c at *
      by_cases hck : c.by_ = k
      · have t0 : (c.by_ == k) = true := by simpa using hck
        have hmax1 := HMAX.out P c.plus
        have hmax2 := HMAX.out M c.minus
        have HT := Lib.hid t0
        have HCK := Lib.hid hck
        clear hck
        go_wp2_with fail
        go_still_tail 9, (by kernel_rfl)
        change wpList _ _ _ _ _ wr.drew
        go_wp2_with fail
        have hS1 : CellsAt (wr.setCell ⟨w.heap.size + 1, 1, none⟩ (.int .u64 ((max P c.plus : Nat) : Int))).drew (w.heap.size + 1) 3 (tri k (max P c.plus) M) := (HS.out.set (i := 1) (by omega) _).congr fun j hj => by
          have : j = 0 ∨ j = 1 ∨ j = 2 := by omega
          rcases this with rfl | rfl | rfl <;> rfl
        have hR1 : CellsAt (wr.setCell ⟨w.heap.size + 1, 1, none⟩ (.int .u64 ((max P c.plus : Nat) : Int))).drew w.heap.size 3 (tri [] 0 0) := HR.out.other (by omega) _
        have hB1 : Below w.heap.size w (wr.setCell ⟨w.heap.size + 1, 1, none⟩ (.int .u64 ((max P c.plus : Nat) : Int))).drew := (HB.out.setCell (p := ⟨w.heap.size + 1, 1, none⟩) (Nat.le_succ _) _).drew
        clear s0 s1 s2 f1 f2 c0 c1 c2 hmax1
        generalize (wr.setCell ⟨w.heap.size + 1, 1, none⟩ (.int .u64 ((max P c.plus : Nat) : Int))).drew = w1 at *
        obtain ⟨c0, c1, c2⟩ := HCA.out.below' hbbw hB1
        have s2 := (hS1 2 (by omega)).1
        have f2 := (hS1 2 (by omega)).2
        simp only [tri, if_false, show ¬ (2 = 0) by omega, show ¬ (2 = 1) by omega] at s2
        have HS1 := Lib.hid hS1
        have HR1 := Lib.hid hR1
        have HB1 := Lib.hid hB1
        clear hS1 hR1 hB1
        go_still_tail 9, (by kernel_rfl)
        change wpList _ _ _ _ _ w1.drew
        go_wp2_with fail
        have hS2 : CellsAt (w1.drew.setCell ⟨w.heap.size + 1, 2, none⟩ (.int .u64 ((max M c.minus : Nat) : Int))) (w.heap.size + 1) 3 (tri k (max P c.plus) (max M c.minus)) := (CellsAt.set (w := w1.drew) HS1.out (i := 2) (by omega) _).congr fun j hj => by
          have : j = 0 ∨ j = 1 ∨ j = 2 := by omega
          rcases this with rfl | rfl | rfl <;> rfl
        have hR2 : CellsAt (w1.drew.setCell ⟨w.heap.size + 1, 2, none⟩ (.int .u64 ((max M c.minus : Nat) : Int))) w.heap.size 3 (tri [] 0 0) := CellsAt.other (w := w1.drew) HR1.out (by omega) _
        have hB2 : Below w.heap.size w (w1.drew.setCell ⟨w.heap.size + 1, 2, none⟩ (.int .u64 ((max M c.minus : Nat) : Int))) := HB1.out.drew.setCell (p := ⟨w.heap.size + 1, 2, none⟩) (Nat.le_succ _) _
        have HS2 := Lib.hid hS2
        have HR2 := Lib.hid hR2
        have HB2 := Lib.hid hB2
        clear hS2 hR2 hB2 s2 f2 c0 c1 c2 hmax2
        go_roundw
        case rel =>
          refine ⟨i + 1, by rw [HHS.out, HT.out, Bool.or_true], by go_num, HLT.out, HR2.out, ?_, HB2.out⟩
          rw [HTK.out.1, HTK.out.2, show mxP [c] k = c.plus by simp [mxP, HCK.out], show mxM [c] k = c.minus by simp [mxM, HCK.out]]
          exact HS2.out
        case measure => have := HLT.out; simp [intOf]; omega
      · have t0 : (c.by_ == k) = false := by simpa using hck
        have HT := Lib.hid t0
        have HCK := Lib.hid (show mxP [c] k = 0 ∧ mxM [c] k = 0 by simp [mxP, mxM, hck])
        clear hck
        go_wp2
        go_roundw
        case rel => exact ⟨i + 1, by rw [HHS.out, HT.out, Bool.or_false], by go_num, HLT.out, HR.out, by rw [HTK.out.1, HTK.out.2, HCK.out.1, HCK.out.2, Nat.max_zero, Nat.max_zero]; exact HS.out, HB.out⟩
        case measure => have := HLT.out; simp [intOf]; omega
    · obtain rfl : i = l.length := by omega
      have s0 := (hs 0 (by omega)).1
      have s1 := (hs 1 (by omega)).1
      have s2 := (hs 2 (by omega)).1
      have r0 := (hr 0 (by omega)).1
      have r1 := (hr 1 (by omega)).1
      have r2 := (hr 2 (by omega)).1
      have g0 := (hr 0 (by omega)).2
      have g1 := (hr 1 (by omega)).2
      have g2 := (hr 2 (by omega)).2
      simp only [tri, if_true, Nat.one_ne_zero, if_false, show ¬ (2 = 0) by omega, show ¬ (2 = 1) by omega, List.take_length] at s0 s1 s2 r0 r1 r2
      clear hr hs hb
      go_wp2_with fail
      have q0 : ∀ v0 v1 v2 : Value, (((wr.setCell ⟨w.heap.size, 0, none⟩ v0).setCell ⟨w.heap.size, 1, none⟩ v1).setCell ⟨w.heap.size, 2, none⟩ v2).cell? ⟨w.heap.size, 0, none⟩ = some v0 := fun v0 v1 v2 =>
        (World.cell?_setCell_other _ _ _ _ (by simp)).trans ((World.cell?_setCell_other _ _ _ _ (by simp)).trans (World.cell?_setCell_same _ _ _ r0))
      have q1 : ∀ v0 v1 v2 : Value, (((wr.setCell ⟨w.heap.size, 0, none⟩ v0).setCell ⟨w.heap.size, 1, none⟩ v1).setCell ⟨w.heap.size, 2, none⟩ v2).cell? ⟨w.heap.size, 1, none⟩ = some v1 := fun v0 v1 v2 =>
        (World.cell?_setCell_other _ _ _ _ (by simp)).trans (World.cell?_setCell_same _ _ _ ((World.cell?_setCell_other _ _ _ _ (by simp)).trans r1))
      have q2 : ∀ v0 v1 v2 : Value, (((wr.setCell ⟨w.heap.size, 0, none⟩ v0).setCell ⟨w.heap.size, 1, none⟩ v1).setCell ⟨w.heap.size, 2, none⟩ v2).cell? ⟨w.heap.size, 2, none⟩ = some v2 := fun v0 v1 v2 =>
        World.cell?_setCell_same _ _ _ ((World.cell?_setCell_other _ _ _ _ (by simp)).trans ((World.cell?_setCell_other _ _ _ _ (by simp)).trans r2))
      refine bodyPost_ret (v := .tuple #[cntV ⟨k, (fOf l k).1, (fOf l k).2⟩, .bool (hasT l k l.length)]) (by
        have e0 := q0 (.string (B k)) (.int .u64 ((mxP l k : Nat) : Int)) (.int .u64 ((mxM l k : Nat) : Int))
        have e1 := q1 (.string (B k)) (.int .u64 ((mxP l k : Nat) : Int)) (.int .u64 ((mxM l k : Nat) : Int))
        have e2 := q2 (.string (B k)) (.int .u64 ((mxP l k : Nat) : Int)) (.int .u64 ((mxM l k : Nat) : Int))
        clear q0 q1 q2
        simp [results, Try.results25, go_sem, e0, e1, e2, cntV, u64, fOf]) rfl ⟨rfl, ?_⟩
      exact ((HB.out.setCell (Nat.le_refl _) _).setCell (Nat.le_refl _) _).setCell (Nat.le_refl _) _

end Go.Proofs.Ytloackmpmhgkeaa.Cnt
