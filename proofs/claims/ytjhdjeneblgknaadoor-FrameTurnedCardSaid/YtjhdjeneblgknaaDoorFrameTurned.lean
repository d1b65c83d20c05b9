/-
  FrameTurned: the call returns true, whatever the text, the place and the bits; under the sum's table.
-/
import Derived.Test.YtjhdjeneblgknaaDoorFrameLaws
open Go Go.RowKit
namespace Go.Proofs.YtjhdjeneblgknaaDoor.Frame
open Base Crc

/-- A frame's head. -/
def hd (t : List UInt8) : List UInt8 := four t.length ++ four (sum (four t.length) t)
theorem hd_length (t : List UInt8) : (hd t).length = 8 := by simp [hd, four_length]
theorem put_hd (t : List UInt8) : put t = hd t ++ t := rfl
/-- What the loop of FrameTurned has done to the bytes. -/
structure Turned (t : List UInt8) (f bits_ m : Nat) (K : Nat) (w0 wr : World) (u : List UInt8) : Prop where
  len : u.length = t.length
  num : num u = num t ^^^ 2 ^ f * (bits_ % 2 ^ m)
  cells : BytesAt wr K (hd t ++ u)
  below : Below w0.heap.size w0 wr
theorem hd_at (t u : List UInt8) (i : Nat) (h : i < u.length) : (hd t ++ u)[8 + i]'(by rw [List.length_append, hd_length]; omega) = u[i] := by
  rw [List.getElem_append_right (by rw [hd_length]; omega)]
  simp [hd_length]
theorem hd_set (t u : List UInt8) (i : Nat) (c : UInt8) : (hd t ++ u).set (8 + i) c = hd t ++ u.set i c := by
  rw [List.set_append_right _ _ (by rw [hd_length]; omega), hd_length, Nat.add_sub_cancel_left]
theorem Turned.step {t : List UInt8} {f bits_ m K : Nat} {w0 wr : World} {u : List UInt8} (h : Turned t f bits_ m K w0 wr u) (hK : w0.heap.size ≤ K) (hi : (f + m) / 8 < u.length) (hb : bits_ / 2 ^ m % 2 = 1) :
    Turned t f bits_ (m + 1) K w0 (wr.setCell ⟨K, 8 + (f + m) / 8, none⟩ (.int .u8 (bits .xor .u8 (u[(f + m) / 8].toNat) (2 ^ ((f + m) % 8) % 256)))) (u.set ((f + m) / 8) (u[(f + m) / 8] ^^^ UInt8.ofNat (2 ^ ((f + m) % 8)))) := by
  rw [turned_op _ _ (by omega)]
  refine ⟨by simp [h.len], ?_, ?_, h.below.setCell hK _⟩
  · rw [num_turn u (f + m) hi, h.num, mask_succ f bits_ m hb, Nat.xor_assoc]
  · rw [← hd_set]
    exact h.cells.set _ (by rw [List.length_append, hd_length]; omega) _
theorem Turned.same {t : List UInt8} {f bits_ m K : Nat} {w0 wr : World} {u : List UInt8} (h : Turned t f bits_ m K w0 wr u) (hb : bits_ / 2 ^ m % 2 ≠ 1) : Turned t f bits_ (m + 1) K w0 wr u :=
  ⟨h.len, by rw [mask_same bits_ m hb]; exact h.num, h.cells, h.below⟩
theorem Turned.fin {t : List UInt8} {f bits_ m K : Nat} {w0 wr : World} {u : List UInt8} (h : Turned t f bits_ m K w0 wr u) (ht : t.length ≤ 4096) (hm : m ≤ 32) (hf : f < 8 * t.length) :
    cut (hd t ++ u) = if bits_ % 2 ^ m = 0 then (u, [], 0) else ([], [], 60) := by
  have hlt : bits_ % 2 ^ m < 4294967296 := Nat.lt_of_lt_of_le (Nat.mod_lt _ (Nat.two_pow_pos m)) (Nat.pow_le_pow_right (by omega) hm)
  rw [hd, List.append_assoc]
  exact cut_turned t u h.len (by omega) f _ hlt h.num (by omega)

set_option maxHeartbeats 1000000 in
theorem Turned_calls (t : List UInt8) (at_ bits_ : Nat) (w : World) (hT : TabOk w) (h1 : 0 < t.length) (h2 : t.length ≤ 4096) (h3 : at_ < 4294967296) (h4 : bits_ < 4294967296) :
    Calls Tryd.prog 3 #[.string (B t), .int .u32 at_, .int .u32 bits_] w fun e w' => e = .returned (.bool true) ∧ Below w.heap.size w w' := by
  have HT := Lib.hid hT
  clear hT
  have h6 : decide ((4096 : Int) < t.length) = false := by simp; omega
  obtain ⟨f, hf, hfn⟩ : ∃ f : Nat, (at_ : Int) % (8 * (t.length : Int)) = (f : Int) ∧ f < 8 * t.length := ⟨at_ % (8 * t.length), by simp, Nat.mod_lt _ (by omega)⟩
  have HF := Lib.hid hf
  clear hf
  have hpl := put_length t
  go_enter Tryd.func3, Tryd.ntmps3
  go_wp2_with fail
  refine (Put_calls t w (by omega) HT.out).mono ?_
  rintro e w1 ⟨rfl, hb1⟩
  have HB1 := Lib.hid hb1
  obtain ⟨k2, w2, e2, hc2, hb2, hz2⟩ := conv_laid (P := Tryd.prog) w1 9 27 5 (B (put t)) Tryd.underlying9 Tryd.underlying27 Tryd.underlying5
  have hst : Turned t f bits_ 0 w1.heap.size w w2 t := ⟨rfl, by simp [Nat.mod_one], by rw [← put_hd]; exact hc2, later hb1 hb2⟩
  have hK : w.heap.size ≤ w1.heap.size := hb1.size
  have HST := Lib.hid hst
  clear hb1 hc2 hb2 hz2 hst
  rw [B_size, hpl] at e2
  go_wp2
  rw [show (8 : Int) + (t.length : Int) - 8 = (t.length : Int) from by omega, HF.out]
  clear HF e2
  generalize w1.heap.size = K at *
  go_loopw [12, 13] (fun v k wr => ∃ (m : Nat) (u : List UInt8), m ≤ 32 ∧ k = .int .i64 m ∧ v = .bool (bits_ % 2 ^ m != 0) ∧ Turned t f bits_ m K w wr u) (fun _ k _ => 32 - (intOf k).toNat)
  case atStart => exact ⟨0, t, by omega, rfl, by simp [Nat.mod_one], HST.out⟩
  case round =>
    clear HST
    obtain ⟨m, u, hm, rfl, rfl, ht⟩ := hrel
    by_cases hlt : m < 32 ∧ f + m < 8 * t.length
    · obtain ⟨hlt, hlt2⟩ := hlt
      have hi : (f + m) / 8 < u.length := by rw [ht.len]; omega
      have ea := bit_and bits_ m h4
      by_cases hb : bits_ / 2 ^ m % 2 = 1
      · obtain ⟨hcell, hfro⟩ := ht.cells (8 + (f + m) / 8) (by rw [List.length_append, hd_length]; omega)
        rw [hd_at _ _ _ hi] at hcell
        have HS := Lib.hid (ht.step hK hi hb)
        have HM := Lib.hid (mask_ne bits_ m hb)
        rw [hb] at ea
        generalize u[(f + m) / 8] = c at hcell HS
        clear hi hb ht
        go_wp2
        go_roundw
        case rel => exact ⟨m + 1, _, by omega, by go_num, by rw [HM.out], HS.out⟩
        case measure => simp [intOf]; omega
      · have HS := Lib.hid (ht.same hb)
        have HM := Lib.hid (mask_same bits_ m hb)
        rw [show bits_ / 2 ^ m % 2 = 0 from by omega] at ea
        clear hi hb ht
        go_wp2
        go_roundw
        case rel => exact ⟨m + 1, _, by omega, by go_num, by rw [HM.out], HS.out⟩
        case measure => simp [intOf]; omega
    · have hfin := ht.fin h2 hm hfn
      have hl : (hd t ++ u).length = 8 + t.length := by rw [List.length_append, hd_length, ht.len]
      have hT2 := HT.out.next ht.below
      have hback := fun cap => ht.cells.back (P := Tryd.prog) 27 9 5 (8 + t.length) cap hl Tryd.underlying27 Tryd.underlying5 Tryd.underlying9
      have HT2 := Lib.hid hT2
      have HBE := Lib.hid ht.below
      have hls : (hd t ++ u).length ≤ maxLen := by rw [hl]; unfold maxLen; omega
      have hnb : u ≠ [] := fun e => by have := ht.len; rw [e] at this; simp at this; omega
      clear hT2 ht hl
      generalize hd t ++ u = fr at *
      have hcut : (bits_ % 2 ^ m = 0 ∧ cut fr = (u, [], 0)) ∨ (bits_ % 2 ^ m ≠ 0 ∧ cut fr = ([], [], 60)) := by
        by_cases h0 : bits_ % 2 ^ m = 0
        · rw [if_pos h0] at hfin; exact .inl ⟨h0, hfin⟩
        · rw [if_neg h0] at hfin; exact .inr ⟨h0, hfin⟩
      clear hfin
      by_cases hlt3 : m < 32
      · have h7 : decide ((f : Int) + (m : Int) < 8 * (t.length : Int)) = false := by simp; omega
        clear hlt
        go_wp2_with fail
        refine (Cut_calls fr wr hls HT2.out).mono ?_
        rintro e w3 ⟨rfl, hw3⟩
        have HB3 := Lib.hid (drawn_below hw3)
        have HT3 := Lib.hid (HT2.out.next (drawn_below hw3))
        clear hw3
        rcases hcut with ⟨h0, hc⟩ | ⟨h0, hc⟩
        · rw [hc]
          have hb0 : (bits_ % 2 ^ m != 0) = false := by simp [h0]
          clear h0 hc
          go_wp2_with (go_at_call 8; refine (works_calls _ HT3.out).mono ?_; rintro e w4 ⟨rfl, hb4⟩)
          go_ret
          exact ⟨rfl, later (later HBE.out HB3.out) hb4⟩
        · rw [hc]
          have hb0 : (bits_ % 2 ^ m != 0) = true := by simp [h0]
          clear h0 hc
          go_wp2_with (go_at_call 8; refine (works_calls _ HT3.out).mono ?_; rintro e w4 ⟨rfl, hb4⟩)
          go_ret
          exact ⟨rfl, later (later HBE.out HB3.out) hb4⟩
      · have h7 : decide ((m : Int) < 32) = false := by simp; omega
        clear hlt
        go_wp2_with fail
        refine (Cut_calls fr wr hls HT2.out).mono ?_
        rintro e w3 ⟨rfl, hw3⟩
        have HB3 := Lib.hid (drawn_below hw3)
        have HT3 := Lib.hid (HT2.out.next (drawn_below hw3))
        clear hw3
        rcases hcut with ⟨h0, hc⟩ | ⟨h0, hc⟩
        · rw [hc]
          have hb0 : (bits_ % 2 ^ m != 0) = false := by simp [h0]
          clear h0 hc
          go_wp2_with (go_at_call 8; refine (works_calls _ HT3.out).mono ?_; rintro e w4 ⟨rfl, hb4⟩)
          go_ret
          exact ⟨rfl, later (later HBE.out HB3.out) hb4⟩
        · rw [hc]
          have hb0 : (bits_ % 2 ^ m != 0) = true := by simp [h0]
          clear h0 hc
          go_wp2_with (go_at_call 8; refine (works_calls _ HT3.out).mono ?_; rintro e w4 ⟨rfl, hb4⟩)
          go_ret
          exact ⟨rfl, later (later HBE.out HB3.out) hb4⟩

set_option maxHeartbeats 400000 in
theorem FrameTurned_calls (t : List UInt8) (at_ bits_ : Nat) (w : World) (ht : t.length ≤ 140737488351232) (hT : TabOk w) (h3 : at_ < 4294967296) (h4 : bits_ < 4294967296) :
    Calls Tryd.prog 3 #[.string (B t), .int .u32 at_, .int .u32 bits_] w fun e w' => e = .returned (.bool true) ∧ Below w.heap.size w w' := by
  by_cases h2 : 4096 < t.length
  · have h6 : decide ((4096 : Int) < t.length) = true := by simp; omega
    have HT := Lib.hid hT
    clear hT
    go_enter Tryd.func3, Tryd.ntmps3
    go_wp2_with (go_at_call 8; refine (works_calls _ HT.out).mono ?_; rintro e w4 ⟨rfl, hb4⟩)
    go_ret
    exact ⟨rfl, hb4⟩
  · by_cases h1 : 0 < t.length
    · exact Turned_calls t at_ bits_ w hT h1 (by omega) h3 h4
    · have h0 : t = [] := List.length_eq_zero_iff.1 (by omega)
      subst h0
      have HT := Lib.hid hT
      clear hT h1 h2
      have hpl := put_length []
      go_enter Tryd.func3, Tryd.ntmps3
      go_wp2_with fail
      refine (Put_calls [] w (by decide) HT.out).mono ?_
      rintro e w1 ⟨rfl, hb1⟩
      have HB1 := Lib.hid hb1
      have HT1 := Lib.hid (HT.out.next hb1)
      obtain ⟨k2, w2, e2, hc2, hb2, hz2⟩ := conv_laid (P := Tryd.prog) w1 9 27 5 (B (put [])) Tryd.underlying9 Tryd.underlying27 Tryd.underlying5
      have HB2 := Lib.hid hb2
      have HT2 := Lib.hid (HT1.out.next hb2)
      clear hb1 hc2 hb2 hz2
      rw [B_size, hpl] at e2
      go_wp2_with (go_at_call 8; refine (works_calls _ HT2.out).mono ?_; rintro e w4 ⟨rfl, hb4⟩)
      go_ret
      exact ⟨rfl, later (later HB1.out HB2.out) hb4⟩
end Go.Proofs.YtjhdjeneblgknaaDoor.Frame
