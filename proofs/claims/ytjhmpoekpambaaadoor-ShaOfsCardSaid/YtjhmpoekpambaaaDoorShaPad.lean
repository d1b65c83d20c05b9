/-
  The document's padding of layer 4 (Padded), walked: it is the bytes and the code's own padding behind them.
-/
import Derived.Test.YtjhmpoekpambaaaDoorShaSum
import Derived.Test.YtjhmpoekpambaaaDoorOwnB
open Go Go.RowKit
namespace Go.Proofs.YtjhmpoekpambaaaDoor.Sha
open Base

theorem infoU8 : (Tryd.prog.info? 5).map (fun i => (i.zero, i.size, i.bytes)) = some (some (.int .u8 0), 1, 1) := by kernel_rfl
/-- The bytes, 128, and k nulls. -/
def padK (s : List UInt8) (k : Nat) : List UInt8 := s ++ [128] ++ List.replicate k 0
theorem padK_length (s : List UInt8) (k : Nat) : (padK s k).length = s.length + 1 + k := by simp [padK]; omega
theorem padK_succ (s : List UInt8) (k : Nat) : padK s (k + 1) = padK s k ++ [0] := by simp [padK, List.replicate_succ']
/-- The number's eight bytes from the highest on: the first 8 - k. -/
def padN (s : List UInt8) (k : Nat) : List UInt8 := padK s (nulls s) ++ (List.range k).map (eb (s.length * 8))
theorem padN_length (s : List UInt8) (k : Nat) : (padN s k).length = s.length + 1 + nulls s + k := by simp [padN, padK_length]
theorem padN_succ (s : List UInt8) (k : Nat) : padN s (k + 1) = padN s k ++ [eb (s.length * 8) k] := by simp [padN, List.range_succ]
theorem padN_all (s : List UInt8) : padN s 8 = s ++ padB s := by
  simp [padN, padK, padB, eightB]
def lenOf : Value → Nat
  | .slice _ n _ => n
  | _ => 0
set_option maxHeartbeats 1000000 in
theorem Padded_calls (s : List UInt8) (w : World) (hs : s.length < 1152921504606) :
    Calls Tryd.prog 16 #[.string (B s)] w fun e w' => ∃ v, e = .returned v ∧ OwnB w' w.heap.size v (s ++ padB s) ∧ Below w.heap.size w w' := by
  obtain ⟨i0, hi, hz0, hz1, hz2⟩ := info_parts infoU8
  obtain ⟨k1, w1, hconv, hown, hb, hsz⟩ := ownB_conv (P := Tryd.prog) w 9 35 5 (B s) Tryd.underlying9 Tryd.underlying35 Tryd.underlying5 (by rw [B_size]; unfold maxLen; omega)
  rw [B_size] at hconv hown
  rw [B_data] at hown
  have HO := Lib.hid hown
  have HB := Lib.hid hb
  have HSZ := Lib.hid hsz
  clear hown hb hsz
  have hba : Below w1.heap.size w1 (w1.alloc (.cells #[.int .u8 128] 5)) := (Below.refl _ _).alloc (Nat.le_refl _) _
  have HO1 := Lib.hid (HO.out.below hba)
  have HB1 := Lib.hid (later HB.out hba)
  have HSZ1 := Lib.hid (show w.heap.size ≤ (w1.alloc (.cells #[.int .u8 128] 5)).heap.size by rw [alloc_more, HSZ.out]; omega)
  clear hba
  have HNU := Lib.hid (show nulls s = (119 - s.length % 64) % 64 from rfl)
  have HPL := Lib.hid (padK_length s)
  go_enter Tryd.func16, Tryd.ntmps16
  go_wp2_with (at_builtin; refine wpList_append_B rfl _ _ 35 rfl w.heap.size 5 i0 Tryd.underlying35 hi hz0 hz1 hz2 _ s rfl HO1.out w1.heap.size 1 1 [128] rfl rfl ?c1 ?c2 ?c3 ?_)
  case c1 =>
    intro j hj
    obtain rfl : j = 0 := by omega
    exact (cells_made w1 #[_] _ 0 (by simp)).1
  case c2 => omega
  case c3 => exact HSZ1.out
  intro v w2 hown2 hb2
  have HO2 := Lib.hid (show OwnB w2 w.heap.size v (padK s 0) by simpa [padK] using hown2)
  have HB2 := Lib.hid (HB1.out.trans hb2)
  clear hown2 hb2 hconv
  go_wp2
  go_loopw [3] (fun v wr => ∃ k : Nat, k ≤ nulls s ∧ OwnB wr w.heap.size v (padK s k) ∧ Below w.heap.size w wr) (fun v _ => s.length + 100 - lenOf v)
  case atStart => exact ⟨0, Nat.zero_le _, HO2.out, HB2.out⟩
  case round =>
    obtain ⟨k, hk, hown, hb⟩ := hrel
    have HO := Lib.hid hown
    obtain ⟨g, cap, rfl, -, -, -, -, -⟩ := hown.form
    have HB := Lib.hid hb
    have hpl := HPL.out k
    have hnu := HNU.out
    rw [hpl]
    rw [hpl] at HO
    clear hown hb hpl
    by_cases hlt : k < nulls s
    · have HS := Lib.hid (padK_succ s k)
      obtain ⟨N, hN⟩ : ∃ N, N = s.length + 1 + k := ⟨_, rfl⟩
      rw [← hN] at HO ⊢
      have t1 : ((N : Int) % 64 != 56) = true := by simp only [bne_iff_ne]; omega
      have hN2 : N < 1152921504700 := by omega
      have HNN := Lib.hid hN
      have HSZ3 := Lib.hid HB.out.size
      have hba : Below wr.heap.size wr (wr.alloc (.cells #[.int .u8 0] 5)) := (Below.refl _ _).alloc (Nat.le_refl _) _
      have HO3 := Lib.hid (HO.out.below hba)
      have HB3 := Lib.hid (later HB.out hba)
      have HPN := Lib.hid (HPL.out k)
      clear hba hnu hN
      go_wp2_with (at_builtin; refine wpList_append_B rfl _ _ 35 rfl w.heap.size 5 i0 Tryd.underlying35 hi hz0 hz1 hz2 _ (padK s k) rfl HO3.out wr.heap.size 1 1 [0] rfl rfl ?c4 ?c5 ?c6 ?_)
      case c4 =>
        intro j hj
        obtain rfl : j = 0 := by omega
        exact (cells_made wr #[_] _ 0 (by simp)).1
      case c5 => rw [HPN.out]; have := HNN.out; omega
      case c6 => rw [alloc_more]; have := HSZ3.out; omega
      intro v2 w3 hown3 hb3
      have HO4 := Lib.hid (show OwnB w3 w.heap.size v2 (padK s (k + 1)) by rw [HS.out]; exact hown3)
      have HB4 := Lib.hid (HB3.out.trans hb3)
      obtain ⟨g2, cap2, hv2, -, -, -, -, -⟩ := HO4.out.form
      rw [HPL.out] at hv2
      have HV := Lib.hid hv2
      clear hown3 hb3 hv2
      go_wp2
      go_roundw
      case rel => exact ⟨k + 1, hlt, HO4.out, HB4.out⟩
      case measure => rw [HV.out, show N = s.length + 1 + k from HNN.out]; show s.length + 100 - (s.length + 1 + (k + 1)) < s.length + 100 - (s.length + 1 + k); have := HNU.out; omega
    · obtain rfl : k = nulls s := by omega
      obtain ⟨N, hN⟩ : ∃ N, N = s.length + 1 + nulls s := ⟨_, rfl⟩
      have HN8 := Lib.hid (show (padN s 0) = padK s (nulls s) by simp [padN])
      rw [← hN] at HO ⊢
      have t1 : ((N : Int) % 64 != 56) = false := by simp only [bne_eq_false_iff_eq]; omega
      have hN2 : N < 1152921504700 := by omega
      have HNN := Lib.hid hN
      have HO4 := Lib.hid (show OwnB wr w.heap.size (.slice (some ⟨g, 0, none⟩) N cap) (padN s 0) by rw [HN8.out]; exact HO.out)
      have hs8 : IntKind.u64.wrap ((s.length : Int) * 8) = (s.length : Int) * 8 := by
        unfold IntKind.wrap
        simp [IntKind.signed, IntKind.bits]
        omega
      have HNL := Lib.hid (padN_length s)
      have HNS := Lib.hid (padN_succ s)
      have HNA := Lib.hid (padN_all s)
      have HEB := Lib.hid (eb_op (s.length * 8))
      obtain ⟨M, hM⟩ : ∃ M, M = s.length * 8 := ⟨_, rfl⟩
      have hM2 : (s.length : Int) * 8 = (M : Int) := by omega
      have hM3 : M < 9223372036854 := by omega
      rw [← hM] at HNS HEB
      have HMM := Lib.hid hM
      clear hnu hN hM hk hlt HO HN8 HPL
      go_wp2
      go_loopw [3, 5] (fun v u wt => ∃ k : Nat, k ≤ 8 ∧ u = .int .i64 (7 - (k : Int)) ∧ OwnB wt w.heap.size v (padN s k) ∧ Below w.heap.size w wt) (fun _ u _ => (intOf u + 1).toNat)
      case atStart => exact ⟨0, by omega, rfl, HO4.out, HB.out⟩
      case round =>
        obtain ⟨k, hk, rfl, hown, hb⟩ := hrel
        have HO5 := Lib.hid hown
        obtain ⟨g5, cap5, rfl, -, -, -, -, -⟩ := hown.form
        have HB5 := Lib.hid hb
        have hnl := HNL.out k
        have hns := HNS.out k
        have heb := HEB.out k
        rw [hnl] at HO5 ⊢
        have HNSK := Lib.hid hns
        clear hown hb
        obtain ⟨N5, hN5⟩ : ∃ N5, N5 = s.length + 1 + nulls s + k := ⟨_, rfl⟩
        rw [← hN5] at HO5 ⊢
        have hN6 : N5 < 1152921504800 := by
          have := HNN.out
          omega
        have HPN5 := Lib.hid (show (padN s k).length = N5 by rw [hnl, hN5])
        clear hN5 hnl hns
        by_cases hlt : k < 8
        · obtain ⟨q, hq⟩ : ∃ q : Nat, q = 7 - k := ⟨_, rfl⟩
          rw [show (7 : Int) - (k : Int) = (q : Int) by omega]
          rw [show 56 - 8 * k = 8 * q by omega] at heb
          have hq7 : q ≤ 7 := by omega
          have HKQ := Lib.hid (show k = 7 - q by omega)
          have HSZ5 := Lib.hid HB5.out.size
          generalize eb M k = x at *
          have hba : Below wr.heap.size wr (wr.alloc (.cells #[.int .u8 (x.toNat : Int)] 5)) := (Below.refl _ _).alloc (Nat.le_refl _) _
          have HO6 := Lib.hid (HO5.out.below hba)
          have HB6 := Lib.hid (later HB5.out hba)
          clear hba hq hlt hk
          go_wp2_with (at_builtin; refine wpList_append_B rfl _ _ 35 rfl w.heap.size 5 i0 Tryd.underlying35 hi hz0 hz1 hz2 _ (padN s k) rfl HO6.out wr.heap.size 1 1 [x] rfl rfl ?c7 ?c8 ?c9 ?_)
          case c7 =>
            intro j hj
            obtain rfl : j = 0 := by omega
            exact (cells_made wr #[_] _ 0 (by simp)).1
          case c8 => rw [HPN5.out]; omega
          case c9 => rw [alloc_more]; have := HSZ5.out; omega
          intro v7 w7 hown7 hb7
          have HO7 := Lib.hid (show OwnB w7 w.heap.size v7 (padN s (k + 1)) by rw [HNSK.out]; exact hown7)
          have HB7 := Lib.hid (HB6.out.trans hb7)
          clear hown7 hb7
          go_wp2
          go_roundw
          case rel => exact ⟨k + 1, by have := HKQ.out; omega, congrArg (Value.int .i64) (by have := HKQ.out; omega), HO7.out, HB7.out⟩
          case measure => simp [intOf]
        · obtain rfl : k = 8 := by omega
          have HOW := Lib.hid (show OwnB wr w.heap.size (.slice (some ⟨g5, 0, none⟩) N5 cap5) (s ++ padB s) by rw [← HNA.out]; exact HO5.out)
          go_wp2
          go_ret
          exact ⟨_, rfl, HOW.out, HB5.out⟩
end Go.Proofs.YtjhmpoekpambaaaDoor.Sha
