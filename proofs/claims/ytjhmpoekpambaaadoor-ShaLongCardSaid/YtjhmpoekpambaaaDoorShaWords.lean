/-
  The walks of layer 4's small functions on words: right, of the code and of the document.
-/
import Derived.Test.YtjhmpoekpambaaaDoorChecked
import Derived.Test.YtjhmpoekpambaaaDoorBase
import Derived.Test.YtjhmpoekpambaaaDoorShaMath
import Derived.WalkKit
import Derived.WalkSpells
import Derived.Outline
import Derived.Lib.Hide
open Go Go.RowKit
namespace Go.Proofs.YtjhmpoekpambaaaDoor.Sha
open Base

theorem rot_op (x : UInt32) (n : Nat) (h1 : 1 ≤ n) (h2 : n ≤ 31) : bits .or .u32 ((U x) / 2 ^ n) ((U x) * 2 ^ (32 - n) % 4294967296) = (U (rotr x n)) := by
  have e1 := shr_u x n (by omega)
  have e2 := shl_u x (32 - n) (by omega)
  rw [show ((2 ^ n : Nat) : Int) = 2 ^ n from by simp] at e1
  rw [show ((2 ^ (32 - n) : Nat) : Int) = 2 ^ (32 - n) from by simp] at e2
  rw [e1, e2, or_u]
  rfl
theorem rot_op2 (x : UInt32) (n : Nat) (h1 : 1 ≤ n) (h2 : n ≤ 31) : bits .or .u32 ((U x) * 2 ^ (32 - n) % 4294967296) ((U x) / 2 ^ n) = (U (rotr x n)) := by
  have e1 := shr_u x n (by omega)
  have e2 := shl_u x (32 - n) (by omega)
  rw [show ((2 ^ n : Nat) : Int) = 2 ^ n from by simp] at e1
  rw [show ((2 ^ (32 - n) : Nat) : Int) = 2 ^ (32 - n) from by simp] at e2
  rw [e1, e2, or_u, UInt32.or_comm]
  rfl
theorem rright_calls (x : UInt32) (n : Nat) (h1 : 1 ≤ n) (h2 : n ≤ 31) (w : World) :
    Calls Tryd.prog 24 #[.int .u32 (U x), .int .u64 (n : Int)] w fun e w' => e = .returned (.int .u32 (U (rotr x n))) ∧ w = w' := by
  have hx := U_pos x
  have hx2 := U_lt x
  go_enter Tryd.func24, Tryd.ntmps24
  go_wp2
  go_ret
  exact ⟨by rw [← rot_op x n h1 h2]; rfl, rfl⟩
theorem right_calls (x : UInt32) (n : Nat) (hn : n = 2 ∨ n = 6 ∨ n = 7 ∨ n = 11 ∨ n = 13 ∨ n = 17 ∨ n = 18 ∨ n = 19 ∨ n = 22 ∨ n = 25) (w : World) :
    Calls Tryd.prog 25 #[.int .u32 (U x), .int .i64 (n : Int)] w fun e w' => e = .returned (.int .u32 (U (rotr x n))) ∧ w = w' := by
  have hx := U_pos x
  have hx2 := U_lt x
  have hr := rot_op2 x n (by omega) (by omega)
  rcases hn with rfl | rfl | rfl | rfl | rfl | rfl | rfl | rfl | rfl | rfl
  · have hk : bits .and .u64 (IntKind.u64.wrap (-2)) 31 = 30 := by decide
    replace hr : bits .or .u32 ((U x) * 1073741824 % 4294967296) ((U x) / 4) = U (rotr x 2) := hr
    go_enter Tryd.func25, Tryd.ntmps25
    go_wp2
    go_ret
    exact ⟨by rw [← hr]; rfl, rfl⟩
  · have hk : bits .and .u64 (IntKind.u64.wrap (-6)) 31 = 26 := by decide
    replace hr : bits .or .u32 ((U x) * 67108864 % 4294967296) ((U x) / 64) = U (rotr x 6) := hr
    go_enter Tryd.func25, Tryd.ntmps25
    go_wp2
    go_ret
    exact ⟨by rw [← hr]; rfl, rfl⟩
  · have hk : bits .and .u64 (IntKind.u64.wrap (-7)) 31 = 25 := by decide
    replace hr : bits .or .u32 ((U x) * 33554432 % 4294967296) ((U x) / 128) = U (rotr x 7) := hr
    go_enter Tryd.func25, Tryd.ntmps25
    go_wp2
    go_ret
    exact ⟨by rw [← hr]; rfl, rfl⟩
  · have hk : bits .and .u64 (IntKind.u64.wrap (-11)) 31 = 21 := by decide
    replace hr : bits .or .u32 ((U x) * 2097152 % 4294967296) ((U x) / 2048) = U (rotr x 11) := hr
    go_enter Tryd.func25, Tryd.ntmps25
    go_wp2
    go_ret
    exact ⟨by rw [← hr]; rfl, rfl⟩
  · have hk : bits .and .u64 (IntKind.u64.wrap (-13)) 31 = 19 := by decide
    replace hr : bits .or .u32 ((U x) * 524288 % 4294967296) ((U x) / 8192) = U (rotr x 13) := hr
    go_enter Tryd.func25, Tryd.ntmps25
    go_wp2
    go_ret
    exact ⟨by rw [← hr]; rfl, rfl⟩
  · have hk : bits .and .u64 (IntKind.u64.wrap (-17)) 31 = 15 := by decide
    replace hr : bits .or .u32 ((U x) * 32768 % 4294967296) ((U x) / 131072) = U (rotr x 17) := hr
    go_enter Tryd.func25, Tryd.ntmps25
    go_wp2
    go_ret
    exact ⟨by rw [← hr]; rfl, rfl⟩
  · have hk : bits .and .u64 (IntKind.u64.wrap (-18)) 31 = 14 := by decide
    replace hr : bits .or .u32 ((U x) * 16384 % 4294967296) ((U x) / 262144) = U (rotr x 18) := hr
    go_enter Tryd.func25, Tryd.ntmps25
    go_wp2
    go_ret
    exact ⟨by rw [← hr]; rfl, rfl⟩
  · have hk : bits .and .u64 (IntKind.u64.wrap (-19)) 31 = 13 := by decide
    replace hr : bits .or .u32 ((U x) * 8192 % 4294967296) ((U x) / 524288) = U (rotr x 19) := hr
    go_enter Tryd.func25, Tryd.ntmps25
    go_wp2
    go_ret
    exact ⟨by rw [← hr]; rfl, rfl⟩
  · have hk : bits .and .u64 (IntKind.u64.wrap (-22)) 31 = 10 := by decide
    replace hr : bits .or .u32 ((U x) * 1024 % 4294967296) ((U x) / 4194304) = U (rotr x 22) := hr
    go_enter Tryd.func25, Tryd.ntmps25
    go_wp2
    go_ret
    exact ⟨by rw [← hr]; rfl, rfl⟩
  · have hk : bits .and .u64 (IntKind.u64.wrap (-25)) 31 = 7 := by decide
    replace hr : bits .or .u32 ((U x) * 128 % 4294967296) ((U x) / 33554432) = U (rotr x 25) := hr
    go_enter Tryd.func25, Tryd.ntmps25
    go_wp2
    go_ret
    exact ⟨by rw [← hr]; rfl, rfl⟩
end Go.Proofs.YtjhmpoekpambaaaDoor.Sha
