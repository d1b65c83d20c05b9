/-
  The walks of layer 6: four, number, sum, Put, Cut, Size, and the document's own: each answers what Frame's function of the same name tells; under the sum's table.
-/
import Derived.Test.YtpiaplgbpjgjiaaDoorCrcTab
import Derived.Test.YtpiaplgbpjgjiaaDoorFrameMath
import Derived.BigRegion
import Derived.BigQuiet
open Go Go.RowKit
namespace Go.Proofs.YtpiaplgbpjgjiaaDoor.Frame
open Base Crc

theorem four_calls (n : Nat) (w : World) :
    Calls Tryd.prog 44 #[.int .u32 n] w fun e w' => e = .returned (.string (B (four n))) ∧ Below w.heap.size w w' := by
  have hb := (bytesAt_cells w (four n) 5 #[.int .u8 ((n : Int) % 256), .int .u8 ((n : Int) / 256 % 256), .int .u8 ((n : Int) / 65536 % 256), .int .u8 ((n : Int) / 16777216 % 256)] (by simp [four])).back (P := Tryd.prog) 45 9 5 4 4 rfl Tryd.underlying45 Tryd.underlying5 Tryd.underlying9
  go_enter Tryd.func44, Tryd.ntmps44
  go_wp2
  go_ret
  exact ⟨rfl, (Below.refl _ _).alloc (Nat.le_refl _) _⟩
theorem number_ops (l : List UInt8) (h : 4 ≤ l.length) :
    bits .or .u32 (bits .or .u32 (bits .or .u32 ((l[0].toNat : Int) % 4294967296) ((l[1].toNat : Int) % 4294967296 * 256 % 4294967296)) ((l[2].toNat : Int) % 4294967296 * 65536 % 4294967296)) ((l[3].toNat : Int) % 4294967296 * 16777216 % 4294967296) = ((number l : Nat) : Int) := by
  have h0 := u8_lt l[0]
  have h1 := u8_lt l[1]
  have h2 := u8_lt l[2]
  have h3 := u8_lt l[3]
  have hn : number l = l[0].toNat + 256 * (l[1].toNat + 256 * (l[2].toNat + 256 * (l[3].toNat + 256 * 0))) := by
    match l, h with
    | a :: b :: c :: d :: r, _ => simp [number, num]
  rw [hn]
  generalize l[0].toNat = a at *
  generalize l[1].toNat = b at *
  generalize l[2].toNat = c at *
  generalize l[3].toNat = d at *
  have e1 := u32_or_nat a (b * 256) (by omega) (by omega)
  have e2 := u32_or_nat (a + b * 256) (c * 65536) (by omega) (by omega)
  have e3 := u32_or_nat (a + b * 256 + c * 65536) (d * 16777216) (by omega) (by omega)
  rw [Nat.or_comm, nat_join 8 (b * 256) a (by omega) (by omega)] at e1
  rw [Nat.or_comm, nat_join 16 (c * 65536) (a + b * 256) (by omega) (by omega)] at e2
  rw [Nat.or_comm, nat_join 24 (d * 16777216) (a + b * 256 + c * 65536) (by omega) (by omega)] at e3
  rw [show (a : Int) % 4294967296 = (a : Int) from by omega, show (b : Int) % 4294967296 * 256 % 4294967296 = ((b * 256 : Nat) : Int) from by omega, show (c : Int) % 4294967296 * 65536 % 4294967296 = ((c * 65536 : Nat) : Int) from by omega, show (d : Int) % 4294967296 * 16777216 % 4294967296 = ((d * 16777216 : Nat) : Int) from by omega]
  rw [e1, show ((b * 256 + a : Nat) : Int) = ((a + b * 256 : Nat) : Int) from by omega, e2, show ((c * 65536 + (a + b * 256) : Nat) : Int) = ((a + b * 256 + c * 65536 : Nat) : Int) from by omega, e3]
  omega
theorem number_calls (l : List UInt8) (w : World) (h : 4 ≤ l.length) (hl : l.length ≤ maxLen) :
    Calls Tryd.prog 49 #[.string (B l)] w fun e w' => e = .returned (.int .u32 (number l : Nat)) ∧ ∃ m, w' = w.drewN m := by
  unfold maxLen at hl
  have h1 : 0 < l.length := by omega
  have h2 : (1 : Int) < (l.length : Int) := by omega
  have h3 : (2 : Int) < (l.length : Int) := by omega
  have h4 : (3 : Int) < (l.length : Int) := by omega
  have e := Lib.hid (number_ops l h)
  go_enter Tryd.func49, Tryd.ntmps49
  go_wp2
  go_region
  go_wp2
  go_ret
  exact ⟨congrArg (fun n => Ending.returned (Value.int .u32 n)) e.out, 1, rfl⟩
theorem sum_calls (a b : List UInt8) (w : World) (ha : a.length ≤ maxLen) (hb : b.length ≤ maxLen) (hT : TabOk w) :
    Calls Tryd.prog 45 #[.string (B a), .string (B b)] w fun e w' => e = .returned (.int .u32 (sum a b : Nat)) ∧ w = w' := by
  have HT := Lib.hid hT
  clear hT
  go_enter Tryd.func45, Tryd.ntmps45
  go_wp2_with (first | (go_at_call 51; refine (Of_B _ _ ha HT.out).mono ?_; rintro e w' ⟨rfl, rfl⟩) | (go_at_call 50; refine (On_B _ _ _ hb (on_lt (by decide) _) HT.out).mono ?_; rintro e w' ⟨rfl, rfl⟩))
  go_ret
  exact ⟨rfl, rfl⟩
theorem Put_calls (t : List UInt8) (w : World) (ht : t.length ≤ 1048576) (hT : TabOk w) :
    Calls Tryd.prog 29 #[.string (B t)] w fun e w' => e = .returned (.tuple #[.string (B (put t)), .int .i64 0]) ∧ Below w.heap.size w w' := by
  have HT := Lib.hid hT
  clear hT
  have hm : t.length ≤ maxLen := by unfold maxLen; omega
  have h4 : (four t.length).length ≤ maxLen := by rw [four_length]; decide
  have e4 := four_length
  go_enter Tryd.func29, Tryd.ntmps29
  go_wp2_with fail
  refine (four_calls _ _).mono ?_
  rintro e w1 ⟨rfl, hb1⟩
  have HT1 := Lib.hid (HT.out.next hb1)
  go_wp2_with fail
  refine (sum_calls _ _ _ h4 hm HT1.out).mono ?_
  rintro e w2 ⟨rfl, rfl⟩
  go_wp2_with fail
  refine (four_calls _ _).mono ?_
  rintro e w3 ⟨rfl, hb3⟩
  go_wp2
  go_ret2
  exact ⟨by rw [put, List.append_assoc]; rfl, hb1.trans (hb3.mono hb1.size)⟩
theorem Put_long (t : List UInt8) (w : World) (ht : 1048576 < t.length) (hm : t.length ≤ maxLen) :
    Calls Tryd.prog 29 #[.string (B t)] w fun e w' => e = .returned (.tuple #[.string ⟨#[]⟩, .int .i64 4]) ∧ w = w' := by
  unfold maxLen at hm
  go_enter Tryd.func29, Tryd.ntmps29
  go_wp2
  go_ret2
  exact ⟨rfl, rfl⟩
end Go.Proofs.YtpiaplgbpjgjiaaDoor.Frame
