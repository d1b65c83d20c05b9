/-
  The walks of layer 3: crc.On, crc.Of and the document's On, Of answer what Crc.on tells; under the table's cells.
-/
import Derived.Test.YtpiaplgbpjgjiaaDoorChecked
import Derived.Test.YtpiaplgbpjgjiaaDoorCrcMath
import Derived.WalkKit
import Derived.WalkSpells
import Derived.Outline
import Derived.Lib.Hide
open Go Go.RowKit
namespace Go.Proofs.YtpiaplgbpjgjiaaDoor.Crc

/-- The table's cells, in a world. -/
def TabOk (w : World) : Prop := ∀ i : Nat, i < 16 → w.cell? ⟨0, i, none⟩ = some (.int .u32 (tab i : Nat))

theorem nib_ops (y : Nat) (hy : y < 4294967296) : ∃ i : Nat, i < 16 ∧ bits .and .u32 (y : Int) 15 = (i : Int) ∧ bits .xor .u32 ((y : Int) / 16) (tab i : Nat) = ((nib y : Nat) : Int) := by
  refine ⟨y % 16, by omega, ?_, ?_⟩
  · have := u32_and_nat y 15 hy (by omega)
    rw [show ((15 : Nat) : Int) = 15 from rfl] at this
    rw [this, nat_mask4]
  · have := u32_xor_nat (y / 16) (tab (y % 16)) (by omega) (tab_lt _)
    rw [show ((y / 16 : Nat) : Int) = (y : Int) / 16 from by omega] at this
    rw [this]; rfl
theorem turnBy_op (t r : Nat) (ht : t < 4294967296) (hr : r < 4294967296) : bits .xor .u32 (t : Int) (r : Int) = (turnBy t r : Nat) := u32_xor_nat t r ht hr
theorem turn_op (r : Nat) (hr : r < 4294967296) : bits .xor .u32 IntKind.u32.max (r : Int) = (turn r : Nat) := by
  rw [show IntKind.u32.max = ((ones : Nat) : Int) from by decide]
  exact turnBy_op ones r (by unfold ones; omega) hr
theorem xor_op (r : Nat) (c : UInt8) (hr : r < 4294967296) : bits .xor .u32 (r : Int) ((c.toNat : Int) % 4294967296) = ((r ^^^ c.toNat : Nat) : Int) := by
  have hc := u8_lt c
  have := u32_xor_nat r c.toNat hr (by omega)
  rw [← this]
  congr 1
  omega
theorem take_snoc (s : ByteArray) (k : Nat) (h : k < s.size) : s.data.toList.take (k + 1) = s.data.toList.take k ++ [s[k]] := by
  rw [List.take_succ_eq_append_getElem (by simpa using h)]; rfl

set_option maxHeartbeats 400000 in
theorem On_calls (r0 : Nat) (s : ByteArray) (w : World) (hs : s.size ≤ maxLen) (h1 : r0 < 4294967296) (hT : TabOk w) :
    Calls Tryd.prog 50 #[.int .u32 r0, .string s] w fun e w' => e = .returned (.int .u32 (on r0 s.data.toList : Nat)) ∧ w = w' := by
  unfold maxLen at hs
  have ht := turn_op r0 h1
  have ht2 := turn_lt h1
  have HT := Lib.hid hT
  clear hT
  go_enter Tryd.func50, Tryd.ntmps50
  go_wp2
  go_loop [5, 6, 11] (fun r _ k => ∃ n : Nat, n ≤ s.size ∧ k = .int .i64 n ∧ r = .int .u32 (run (turn r0) (s.data.toList.take n) : Nat)) (fun _ _ k => s.size - (intOf k).toNat)
  case atStart => exact ⟨0, Nat.zero_le _, rfl, rfl⟩
  case round =>
    obtain ⟨n, hn, rfl, rfl⟩ := hrel
    clear ht
    by_cases hlt : n < s.size
    · have hx := run_lt ht2 (s.data.toList.take n)
      have hts : run (turn r0) (s.data.toList.take (n + 1)) = byte (run (turn r0) (s.data.toList.take n)) s[n] := by rw [take_snoc s n hlt, run_snoc]
      have HS := Lib.hid hts
      clear hts
      generalize run (turn r0) (s.data.toList.take n) = x at hx HS ⊢
      have e1 := xor_op x s[n] hx
      have h2 : x ^^^ s[n].toNat < 4294967296 := xor_lt hx (by have := u8_lt s[n]; omega)
      have hb : byte x s[n] = nib (nib (x ^^^ s[n].toNat)) := rfl
      have HB := Lib.hid hb
      clear hb
      generalize x ^^^ s[n].toNat = y at e1 h2 HB
      obtain ⟨i, hi, e2, e3⟩ := nib_ops y h2
      have h3 := nib_lt h2
      have hc1 := HT.out i hi
      generalize nib y = z at h3 e3 HB
      obtain ⟨j, hj, e4, e5⟩ := nib_ops z h3
      have hc2 := HT.out j hj
      go_wp2
      go_round
      case rel => exact ⟨n + 1, by omega, by go_num, by rw [HS.out, HB.out]⟩
      case measure => simp [intOf]; omega
    · have hx := run_lt ht2 (s.data.toList.take n)
      have ht3 := turn_op _ hx
      go_wp2
      go_ret
      refine ⟨?_, rfl⟩
      rw [List.take_of_length_le (by simp; omega)]
      rfl

theorem Of_calls (s : ByteArray) (w : World) (hs : s.size ≤ maxLen) (hT : TabOk w) :
    Calls Tryd.prog 51 #[.string s] w fun e w' => e = .returned (.int .u32 (on 0 s.data.toList : Nat)) ∧ w = w' := by
  have H := On_calls 0 s w hs (by omega) hT
  have HT := Lib.hid hT
  clear hT
  go_enter Tryd.func51, Tryd.ntmps51
  go_wp2_with (go_at_call 50; refine H.mono ?_; rintro e w' ⟨rfl, rfl⟩)
  go_ret
  exact ⟨rfl, rfl⟩

theorem bit_ops (y c m : Nat) (hy : y < 4294967296) (hc : c < 256) : ∃ d : Nat, bits .xor .u32 (bits .and .u32 ((c : Int) / 2 ^ m % 4294967296) 1) (bits .and .u32 (y : Int) 1) = (d : Int) ∧
    d = (c / 2 ^ m % 2) ^^^ y % 2 ∧ bits .xor .u32 ((y : Int) / 2) 2197175160 = ((y / 2 ^^^ 2197175160 : Nat) : Int) := by
  have h1 := u32_and_nat (c / 2 ^ m) 1 (Nat.lt_of_le_of_lt (Nat.div_le_self _ _) (by omega)) (by omega)
  have h2 := u32_and_nat y 1 hy (by omega)
  have h3 := u32_xor_nat (c / 2 ^ m % 2) (y % 2) (by omega) (by omega)
  have h4 := u32_xor_nat (y / 2) 2197175160 (by omega) (by omega)
  rw [nat_mask1] at h1 h2
  have e : (c : Int) / 2 ^ m % 4294967296 = ((c / 2 ^ m : Nat) : Int) := by
    have hle := Nat.div_le_self c (2 ^ m)
    have : (c : Int) / 2 ^ m = ((c / 2 ^ m : Nat) : Int) := by rw [Int.natCast_ediv, Int.natCast_pow]; rfl
    rw [this]
    generalize c / 2 ^ m = q at hle
    omega
  refine ⟨_, ?_, rfl, ?_⟩
  · rw [e, show (1 : Int) = ((1 : Nat) : Int) from rfl, h1, h2, h3]
  · rw [show (y : Int) / 2 = ((y / 2 : Nat) : Int) from by omega]
    exact h4

end Go.Proofs.YtpiaplgbpjgjiaaDoor.Crc
