/-
  The sum's table in worlds to come; the contracts of layer 3 at strings of bytes. No condition.
-/
import Derived.Test.YtpiaplgbpjgjiaaDoorCrcWalks
import Derived.Test.YtpiaplgbpjgjiaaDoorBase
open Go Go.RowKit
namespace Go.Proofs.YtpiaplgbpjgjiaaDoor.Crc
open Base

theorem TabOk.below {w w' : World} {K : Nat} (h : TabOk w) (hB : 0 < K) (hb : Below K w w') : TabOk w' := fun i hi => (hb.cell (p := ⟨0, i, none⟩) hB).trans (h i hi)
theorem TabOk.lt {w : World} (h : TabOk w) : 0 < w.heap.size := lt_of_cell (h 0 (by omega))
theorem TabOk.next {w w' : World} (h : TabOk w) (hb : Below w.heap.size w w') : TabOk w' := h.below h.lt hb
theorem TabOk.drewN {w : World} (h : TabOk w) (n : Nat) : TabOk (w.drewN n) := h
theorem bit_and (b m : Nat) (hb : b < 4294967296) : bits .and .u32 ((b : Int) / 2 ^ m) 1 = ((b / 2 ^ m % 2 : Nat) : Int) := by
  have h1 := u32_and_nat (b / 2 ^ m) 1 (Nat.lt_of_le_of_lt (Nat.div_le_self _ _) (by omega)) (by omega)
  rw [nat_mask1] at h1
  rw [← h1, Int.natCast_ediv, Int.natCast_pow]
  rfl
theorem turned_op (c : UInt8) (k : Nat) (hk : k < 8) : bits .xor .u8 (c.toNat : Int) (2 ^ k % 256) = ((c ^^^ UInt8.ofNat (2 ^ k)).toNat : Nat) := by
  have hp : 2 ^ k < 2 ^ 8 := Nat.pow_lt_pow_right (by omega) hk
  have h1 := u8_xor_nat c.toNat (2 ^ k) (u8_lt _) (by omega)
  rw [UInt8.toNat_xor, UInt8.toNat_ofNat', Nat.mod_eq_of_lt hp, ← h1]
  congr 1
  rw [show ((2 : Int) ^ k) = ((2 ^ k : Nat) : Int) from by rw [Int.natCast_pow]; rfl]
  generalize 2 ^ k = q at hp
  omega
theorem B_max {l : List UInt8} (h : l.length ≤ maxLen) : (B l).size ≤ maxLen := by rw [B_size]; exact h
theorem On_B (r0 : Nat) (l : List UInt8) (w : World) (hs : l.length ≤ maxLen) (h1 : r0 < 4294967296) (hT : TabOk w) :
    Calls Tryd.prog 50 #[.int .u32 r0, .string (B l)] w fun e w' => e = .returned (.int .u32 (on r0 l : Nat)) ∧ w = w' := On_calls r0 (B l) w (B_max hs) h1 hT
theorem Of_B (l : List UInt8) (w : World) (hs : l.length ≤ maxLen) (hT : TabOk w) :
    Calls Tryd.prog 51 #[.string (B l)] w fun e w' => e = .returned (.int .u32 (on 0 l : Nat)) ∧ w = w' := Of_calls (B l) w (B_max hs) hT
end Go.Proofs.YtpiaplgbpjgjiaaDoor.Crc
