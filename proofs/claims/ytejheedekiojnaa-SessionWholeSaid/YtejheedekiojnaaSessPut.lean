/-
  The walks of layer 28's inner functions: (*held).put, (*held).text.
-/
import Derived.Test.YtejheedekiojnaaSessMem
import Derived.Test.YtejheedekiojnaaBuild
open Go Go.RowKit
namespace Go.Proofs.Ytejheedekiojnaa.Sess
open Base Mp

def own2 (b : Nat) (i : Nat) : Prop := i = b ∨ i = b + 1

theorem HeldAt.filled {w : World} {b k : Nat} {H : Held} {t : List UInt8} (h : HeldAt w b H) (hk : k < H.ps.length) (hn : H.ps[k] = none) {v2 v3 : Value} (h2 : v2 = .int .i64 ((came H : Int) + 1)) (h3 : v3 = .int .i64 ((bytes H : Int) + (t.length : Int))) :
    HeldAt ((((w.setCell ⟨b, k * 2, none⟩ (.bool true)).setCell ⟨b, k * 2 + 1, none⟩ (.string (B t))).setCell ⟨b + 1, 2, none⟩ v2).setCell ⟨b + 1, 3, none⟩ v3) b ⟨H.id, H.ps.set k (some t)⟩ := by
  subst h2 h3
  have hc : came ⟨H.id, H.ps.set k (some t)⟩ = came H + 1 := came_set H.ps k t hk hn
  have hb : bytes ⟨H.id, H.ps.set k (some t)⟩ = bytes H + t.length := sum_set H.ps k t hk hn
  constructor
  · simp only [List.length_set]
    refine CellsAt.other (CellsAt.other ?_ (by omega) _) (by omega) _
    refine CellsAt.congr (CellsAt.set (CellsAt.set h.body (i := k * 2) (by omega) _) (i := k * 2 + 1) (by omega) _) fun j hj => ?_
    by_cases e1 : j = k * 2 + 1
    · subst e1
      rw [if_pos rfl]
      unfold pieceCell
      rw [if_neg (by omega), show (k * 2 + 1) / 2 = k by omega, List.getElem?_set_self hk]; rfl
    by_cases e0 : j = k * 2
    · subst e0
      rw [if_neg e1, if_pos rfl]
      unfold pieceCell
      rw [if_pos (by omega), show k * 2 / 2 = k by omega, List.getElem?_set_self hk]; rfl
    rw [if_neg e1, if_neg e0]
    unfold pieceCell
    rw [List.getElem?_set_ne (by omega)]
  · refine CellsAt.congr (CellsAt.set (CellsAt.set (CellsAt.other (CellsAt.other h.head (by omega) _) (by omega) _) (i := 2) (by omega) _) (i := 3) (by omega) _) fun j hj => ?_
    have : j = 0 ∨ j = 1 ∨ j = 2 ∨ j = 3 := by omega
    rcases this with rfl | rfl | rfl | rfl
    · rfl
    · simp [headCell]
    · simp [headCell, hc]
    · simp [headCell, hb]
theorem HeldAt.drew {w : World} {b : Nat} {H : Held} (h : HeldAt w b H) : HeldAt w.drew b H := ⟨h.body, h.head⟩
theorem Kept.drew {T : Nat → Prop} {a w : World} (h : Kept T a w) : Kept T a w.drew := ⟨h.os, h.tape, h.output, h.size, h.block⟩

set_option maxHeartbeats 1000000 in
theorem put_calls (b : Nat) (H : Held) (pid k : Nat) (pn : Int) (t : List UInt8) (w : World) (hh : HeldAt w b H) (hf : Fine H) (hk : k < H.ps.length) (ht : t.length ≤ 4096) :
    Calls Try.prog 18 #[ptr (b + 1), partV ⟨pid, k, pn, t⟩] w fun e w' => e = .returned (.int .i64 ((hput H k t).2 : Nat)) ∧ HeldAt w' b (hput H k t).1 ∧ Kept (own2 b) w w' := by
  unfold partV
  simp only
  have hb2 : Below w.heap.size w (w.alloc (.cells #[.int .u64 (pid : Int), .int .i64 (k : Int), .int .i64 pn, .string (B t)] 32)) := (Below.refl _ _).alloc (Nat.le_refl _) _
  have hlt := hh.head.lt (by omega)
  have hw : HeldAt (w.alloc (.cells #[.int .u64 (pid : Int), .int .i64 (k : Int), .int .i64 pn, .string (B t)] 32)) b H := hh.kept (Kept.of_below (T := fun _ => False) hb2) (fun h => h) (fun h => h)
  have hp := cells_made w #[.int .u64 (pid : Int), .int .i64 (k : Int), .int .i64 pn, .string (B t)] 32
  have HB2 := Lib.hid hb2
  have HW := Lib.hid hw
  have HP := Lib.hid hp
  clear hb2 hw hp
  unfold ptr
  go_enter Try.func18, Try.ntmps18
  go_wp2
  generalize hw1 : w.alloc (.cells #[.int .u64 (pid : Int), .int .i64 (k : Int), .int .i64 pn, .string (B t)] 32) = w1 at *
  have hs1 : w.heap.size < w1.heap.size := lt_of_cell (HP.out 0 (by show 0 < 4; omega)).1
  have pc1 : w1.cell? ⟨w.heap.size, 1, none⟩ = some (.int .i64 (k : Int)) := (HP.out 1 (by show 1 < 4; omega)).1
  have pc3 : w1.cell? ⟨w.heap.size, 3, none⟩ = some (.string (B t)) := (HP.out 3 (by show 3 < 4; omega)).1
  obtain ⟨hc1, hf1⟩ := HW.out.head 1 (by omega)
  obtain ⟨hc2, hf2⟩ := HW.out.head 2 (by omega)
  obtain ⟨hc3, hf3⟩ := HW.out.head 3 (by omega)
  obtain ⟨bc0, bf0⟩ := HW.out.body (k * 2) (by omega)
  obtain ⟨bc1, bf1⟩ := HW.out.body (k * 2 + 1) (by omega)
  simp only [headCell] at hc1 hc2 hc3
  have e0 : pieceCell H.ps (k * 2) = .bool (H.ps[k]).isSome := by
    unfold pieceCell; rw [if_pos (by omega), show k * 2 / 2 = k by omega, List.getElem?_eq_getElem hk]; rfl
  have e1 : pieceCell H.ps (k * 2 + 1) = .string (B ((H.ps[k]).getD [])) := by
    unfold pieceCell; rw [if_neg (by omega), show (k * 2 + 1) / 2 = k by omega, List.getElem?_eq_getElem hk]; rfl
  rw [e0] at bc0
  rw [e1] at bc1
  clear e0 e1
  have hps := hf.few
  have hcb := came_le H
  have hbb := bytes_le H hf
  cases ho : H.ps[k] with
  | none =>
    have hput' : hput H k t = (⟨H.id, H.ps.set k (some t)⟩, 0) := by
      unfold hput
      rw [List.getElem?_eq_getElem hk, ho]
    have HFill := Lib.hid (fun v2 v3 => HW.out.filled (t := t) hk ho (v2 := v2) (v3 := v3))
    have HK := Lib.hid hput'
    rw [ho] at bc0 bc1
    simp only [Option.isSome, Option.getD] at bc0 bc1
    clear hput' hf hh
    generalize came H = cH at *
    generalize bytes H = bH at *
    go_region
    go_wp2
    go_region
    go_wp2
    go_ret
    refine ⟨by rw [HK.out]; rfl, ?_, ?_⟩
    · rw [HK.out]
      exact (HFill.out _ _ rfl rfl).drew.drew
    · have hb : Kept (own2 b) w w1 := Kept.of_below HB2.out
      exact ((((hb.setCell (p := ⟨b, k * 2, none⟩) (Or.inl (Or.inl rfl)) _).setCell (p := ⟨b, k * 2 + 1, none⟩) (Or.inl (Or.inl rfl)) _).setCell (p := ⟨b + 1, 2, none⟩) (Or.inl (Or.inr rfl)) _).setCell (p := ⟨b + 1, 3, none⟩) (Or.inl (Or.inr rfl)) _).drew.drew
  | some y =>
    rw [ho] at bc0 bc1
    simp only [Option.isSome, Option.getD] at bc0 bc1
    have hk0 : Kept (own2 b) w w1 := Kept.of_below HB2.out
    have HK := Lib.hid hk0
    clear hk0
    by_cases hy : y = t
    · have hput' : hput H k t = (H, 0) := by
        unfold hput
        rw [List.getElem?_eq_getElem hk, ho]
        simp [hy]
      have HP2 := Lib.hid hput'
      clear hput'
      subst hy
      go_region
      go_wp2
      go_region
      go_wp2
      go_ret
      exact ⟨by rw [HP2.out]; rfl, by rw [HP2.out]; exact HW.out.drew.drew, HK.out.drew.drew⟩
    · have hput' : hput H k t = (H, 7) := by
        unfold hput
        rw [List.getElem?_eq_getElem hk, ho]
        simp [hy]
      have HP2 := Lib.hid hput'
      have hb2 : (y == t) = false := beq_eq_false_iff_ne.2 hy
      clear hput' hy
      go_region
      go_wp2
      go_region
      go_wp2
      go_ret
      exact ⟨by rw [HP2.out]; rfl, by rw [HP2.out]; exact HW.out.drew.drew, HK.out.drew.drew⟩
end Go.Proofs.Ytejheedekiojnaa.Sess
