/-
  The walk of SessionCuts (layer 28).
-/
import Derived.Test.YtejheedekiojnaaSessWorks
open Go Go.RowKit
namespace Go.Proofs.Ytejheedekiojnaa.Sess
open Base Mp

theorem take_piece (t : List UInt8) (size k : Nat) : t.take (k * size) ++ piece t size k = t.take ((k + 1) * size) := by
  unfold piece
  have h : t.take (k * size) = (t.take ((k + 1) * size)).take (k * size) := by
    rw [List.take_take, Nat.min_eq_left (Nat.mul_le_mul_right _ (by omega))]
  rw [h]
  exact List.take_append_drop _ _
theorem piece_whole (t : List UInt8) (size k : Nat) (hs : 0 < size) (hk : k + 1 < cutN t.length size) : (piece t size k).length = size := by
  have := cutN_before t.length size k hs hk
  rw [piece_length, Nat.add_mul] at *
  omega
theorem piece_some (t : List UInt8) (size k : Nat) (hs : 0 < size) (hk : k < cutN t.length size) (h1 : 1 < cutN t.length size) : piece t size k ≠ [] := by
  intro h
  have h0 := piece_length t size k
  rw [h] at h0
  rcases Nat.eq_zero_or_pos k with e | e
  · subst e
    have := cutN_before t.length size 0 hs (by omega)
    simp at h0 this
    omega
  · have := cutN_before t.length size (k - 1) hs (by omega)
    rw [show k - 1 + 1 = k by omega] at this
    rw [Nat.add_mul] at h0
    simp at h0
    omega

set_option maxHeartbeats 2000000 in
set_option maxRecDepth 100000 in
theorem SessionCuts_calls (t : List UInt8) (id : Nat) (z : Int) (w : World) (ht : t.length ≤ maxLen) (hz1 : -9223372036854775808 ≤ z) (hz2 : z ≤ 9223372036854775807) :
    Calls Try.prog 4 #[.string (B t), .int .u64 (id : Int), .int .i64 z] w fun e w' => e = .returned (.bool true) ∧ Below w.heap.size w w' := by
  unfold maxLen at ht
  have HW := Lib.hid works_calls
  by_cases hbig : 16384 < t.length
  · have h1 : decide ((16384 : Int) < (t.length : Int)) = true := by simp; omega
    go_enter Try.func4, Try.ntmps4
    go_wp2_with fail
    refine (HW.out w).mono ?_
    rintro e w1 ⟨rfl, hb⟩
    have HB := Lib.hid hb
    clear hb
    go_wp2
    go_ret
    exact ⟨rfl, HB.out⟩
  have h1 : decide ((16384 : Int) < (t.length : Int)) = false := by simp; omega
  by_cases hbad : z < 1 ∨ 4096 < z
  · have HC := Lib.hid (Cut_bad t id z w hbad)
    by_cases hz : z < 1
    · have h2 : decide (z < 1) = true := by simp [hz]
      go_enter Try.func4, Try.ntmps4
      go_wp2_with fail
      refine HC.out.mono ?_
      rintro e w1 ⟨rfl, rfl⟩
      go_wp2_with fail
      refine (HW.out w).mono ?_
      rintro e w1 ⟨rfl, hb⟩
      have HB := Lib.hid hb
      clear hb
      go_wp2
      go_ret
      exact ⟨rfl, HB.out⟩
    · have h2 : decide (z < 1) = false := by simp [hz]
      have h3 : decide (4096 < z) = true := by simp; omega
      go_enter Try.func4, Try.ntmps4
      go_wp2_with fail
      refine HC.out.mono ?_
      rintro e w1 ⟨rfl, rfl⟩
      go_wp2_with fail
      refine (HW.out w).mono ?_
      rintro e w1 ⟨rfl, hb⟩
      have HB := Lib.hid hb
      clear hb
      go_wp2
      go_ret
      exact ⟨rfl, HB.out⟩
  obtain ⟨size, rfl⟩ : ∃ size : Nat, z = size := ⟨z.toNat, by omega⟩
  have h2 : decide ((size : Int) < 1) = false := by simp; omega
  have h3 : decide ((4096 : Int) < (size : Int)) = false := by simp; omega
  by_cases hlong : size * 256 < t.length
  · have HC := Lib.hid (Cut_long t id size w (by omega) (by omega) hlong (by omega))
    have h4 : decide ((size : Int) * 256 < (t.length : Int)) = true := by simp; omega
    go_enter Try.func4, Try.ntmps4
    go_wp2_with fail
    refine HC.out.mono ?_
    rintro e w1 ⟨rfl, rfl⟩
    go_wp2_with fail
    refine (HW.out w).mono ?_
    rintro e w1 ⟨rfl, hb⟩
    have HB := Lib.hid hb
    clear hb
    go_wp2
    go_ret
    exact ⟨rfl, HB.out⟩
  have h4 : decide ((size : Int) * 256 < (t.length : Int)) = false := by simp; omega
  have HC := Lib.hid (Cut_calls t id size w (by omega) (by omega) (by omega))
  have hlen : (cutT t id size).length = cutN t.length size := by simp [cutT]
  go_enter Try.func4, Try.ntmps4
  go_wp2_with fail
  refine HC.out.mono ?_
  rintro e w1 ⟨b, rfl, hb1, hb2, hp, hbe⟩
  have hcells : ∀ k, k < cutN t.length size → w1.cell? ⟨b, k * 4, none⟩ = some (.int .u64 (id : Int)) ∧ w1.cell? ⟨b, k * 4 + 1, none⟩ = some (.int .i64 (k : Int)) ∧ w1.cell? ⟨b, k * 4 + 2, none⟩ = some (.int .i64 (cutN t.length size : Nat)) ∧ w1.cell? ⟨b, k * 4 + 3, none⟩ = some (.string (B (piece t size k))) := by
    intro k hk
    have e : ∀ j, j / 4 = k → w1.cell? ⟨b, j, none⟩ = some (cellP (partOf t id size (cutN t.length size) k) (j % 4)) := by
      intro j hj
      rw [(hp j (by rw [hlen]; omega)).1]
      show some (cellP ((cutT t id size)[j / 4]?.getD noPart) (j % 4)) = _
      rw [hj]
      simp [cutT, hk]
    refine ⟨?_, ?_, ?_, ?_⟩
    · rw [e (k * 4) (by omega), show k * 4 % 4 = 0 by omega]; rfl
    · rw [e (k * 4 + 1) (by omega), show (k * 4 + 1) % 4 = 1 by omega]; rfl
    · rw [e (k * 4 + 2) (by omega), show (k * 4 + 2) % 4 = 2 by omega]; rfl
    · rw [e (k * 4 + 3) (by omega), show (k * 4 + 3) % 4 = 3 by omega]; rfl
  have hn2 : cutN t.length size ≤ 256 := by
    rcases Nat.lt_or_ge 256 (cutN t.length size) with h | h
    · have := (cutN_long t.length size 256 (by omega) (by omega)).1 h
      rw [Nat.mul_comm] at this
      omega
    · exact h
  have hwhole := fun k => piece_whole t size k (by omega)
  have hsome := fun k => piece_some t size k (by omega)
  have hall := cutN_covers t.length size (by omega)
  have hpos := cutN_pos t.length size
  have hple := fun k => piece_le t size k
  rw [hlen]
  have HCELL := Lib.hid hcells
  have HWH := Lib.hid hwhole
  have HSO := Lib.hid hsome
  have HALL := Lib.hid hall
  have HPL := Lib.hid hple
  have HBE := Lib.hid hbe
  clear hcells hwhole hsome hall hple hbe hp hlen HC
  generalize cutN t.length size = N at *
  go_wp2
  go_loop [10, 9] (fun i all => ∃ k : Nat, k ≤ N ∧ i = .int .i64 k ∧ all = .string (B (t.take (k * size)))) (fun i _ => N - (intOf i).toNat)
  case atStart => exact ⟨0, Nat.zero_le _, rfl, by simp; rfl⟩
  case round =>
    obtain ⟨k, hk, rfl, rfl⟩ := hrel
    by_cases hlt : k < N
    · obtain ⟨c0, c1, c2, c3⟩ := HCELL.out k hlt
      have hap := Lib.hid (take_piece t size k)
      have hpl := HPL.out k
      have hbt : (t.take (k * size)).length ≤ 16384 := by rw [List.length_take]; omega
      by_cases hlast : k + 1 = N
      · have t1 : ((k : Int) != (N : Int) - 1) = false := by simp; omega
        by_cases hone : N = 1
        · have t2 : decide ((1 : Int) < (N : Int)) = false := by simp; omega
          clear hlast hone
          generalize piece t size k = pk at *
          generalize t.take (k * size) = tk at *
          go_wp2
          all_goals exact ⟨⟨k + 1, by omega, by go_num, by rw [← hap.out]; try simp [*]⟩, by simp [intOf]; omega⟩
        · have t2 : decide ((1 : Int) < (N : Int)) = true := by simp; omega
          have hne := HSO.out k hlt (by omega)
          clear hlast hone
          generalize piece t size k = pk at *
          generalize t.take (k * size) = tk at *
          go_wp2
          all_goals exact ⟨⟨k + 1, by omega, by go_num, by rw [← hap.out]; try simp [*]⟩, by simp [intOf]; omega⟩
      · have t1 : ((k : Int) != (N : Int) - 1) = true := by simp; omega
        have hne := HSO.out k hlt (by omega)
        have hwl := HWH.out k (by omega)
        have hwl2 : ((piece t size k).length : Int) = (size : Int) := by omega
        clear hlast hwl
        generalize piece t size k = pk at *
        generalize t.take (k * size) = tk at *
        go_wp2
        all_goals exact ⟨⟨k + 1, by omega, by go_num, by rw [← hap.out]; try simp [*]⟩, by simp [intOf]; omega⟩
    · have hkN : k = N := by omega
      subst hkN
      have hfull : t.take (k * size) = t := List.take_of_length_le HALL.out
      rw [hfull]
      clear hfull
      have HW1 := Lib.hid (HW.out w1)
      go_wp2_with fail
      refine HW1.out.mono ?_
      rintro e w2 ⟨rfl, hb⟩
      have HB := Lib.hid (later HBE.out hb)
      clear hb
      go_wp2
      go_ret
      exact ⟨rfl, HB.out⟩
end Go.Proofs.Ytejheedekiojnaa.Sess
