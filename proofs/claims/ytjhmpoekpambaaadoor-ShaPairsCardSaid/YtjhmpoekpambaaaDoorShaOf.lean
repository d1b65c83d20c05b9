/-
  The walks of Of and Pair, and of layer 4's known case ('works').
-/
import Derived.Test.YtjhmpoekpambaaaDoorShaSum
open Go Go.RowKit
namespace Go.Proofs.YtjhmpoekpambaaaDoor.Sha
open Base

theorem flat_len (l : List (List UInt8)) (k : Nat) : ((l.take k).flatten).length ≤ l.flatten.length := by
  have h : l.flatten = (l.take k).flatten ++ (l.drop k).flatten := by rw [← List.flatten_append, List.take_append_drop]
  rw [h, List.length_append]
  omega
theorem flat_step (l : List (List UInt8)) (k : Nat) (h : k < l.length) : (l.take (k + 1)).flatten = (l.take k).flatten ++ l[k] := by
  rw [List.take_succ_eq_append_getElem h, List.flatten_append]
  simp
set_option maxHeartbeats 4000000 in
set_option maxRecDepth 100000 in
theorem Of_calls (w : World) (p : Option Addr) (cap : Nat) (l : List (List UInt8)) (hO : Ok w) (hl : l.length ≤ maxLen) (ha : RowArg w p (l.map fun x => .string (B x))) (hlen : l.flatten.length < 576460752303423488) :
    Calls Tryd.prog 8 #[.slice p l.length cap] w fun e w' => e = .returned (.string (B (digest l.flatten))) ∧ Below w.heap.size w w' := by
  unfold maxLen at hl
  have HN := Lib.hid (New_calls w hO.start)
  have hlow := hO.low.1
  go_enter Tryd.func8, Tryd.ntmps8
  go_wp2_with fail
  refine HN.out.mono ?_
  clear HN
  rintro e w1 ⟨rfl, hh, hb⟩
  have HH := Lib.hid hh
  have HB := Lib.hid hb
  have HOK := Lib.hid hO
  have HA := Lib.hid ha
  clear hh hb hO ha
  go_wp2
  go_loopw [9] (fun v wr => ∃ k : Nat, v = .int .i64 k ∧ k ≤ l.length ∧ HashAt wr w.heap.size (l.take k).flatten ∧ Below w.heap.size w wr) (fun v _ => l.length - (intOf v).toNat)
  case atStart => exact ⟨0, rfl, Nat.zero_le _, by simpa using HH.out, HB.out⟩
  case round =>
    obtain ⟨k, rfl, hk, hh, hb⟩ := hrel
    clear HH HB
    have HH := Lib.hid hh
    have HB := Lib.hid hb
    clear hh hb
    by_cases hlt : k < l.length
    · obtain ⟨bb, off, rfl, -, hcell⟩ := (HA.out.below HB.out) k (by simpa using hlt)
      rw [List.getElem_map] at hcell
      have HF := Lib.hid (flat_step l k hlt)
      have hfl := flat_len l (k + 1)
      rw [HF.out, List.length_append] at hfl
      have HAD := Lib.hid (Add_calls wr w.heap.size _ l[k] HH.out (HOK.out.below HB.out).tab (by omega) (by omega))
      have t1 : (k : Int) < (l.length : Int) := by omega
      clear hfl
      generalize l[k] = x at *
      go_wp2_with fail
      refine HAD.out.mono ?_
      clear HAD
      rintro e w5 ⟨rfl, hh, hkp⟩
      rw [← HF.out] at hh
      have HH5 := Lib.hid hh
      have HB5 := Lib.hid (HB.out.trans (hkp.below (fun i hi => by rw [hi]; exact Nat.le_refl _) HB.out.size))
      clear hh hkp
      go_wp2
      go_roundw
      case rel => exact ⟨k + 1, by go_num, by omega, HH5.out, HB5.out⟩
      case measure => simp [intOf]; omega
    · have hkl : k = l.length := by omega
      have hh := HH.out
      rw [hkl, List.take_length] at hh
      have HS := Lib.hid (Sum_calls wr w.heap.size _ hh (HOK.out.below HB.out).tab hlen)
      have t1 : ¬ (k : Int) < (l.length : Int) := by omega
      clear hh hkl
      go_wp2_with fail
      refine HS.out.mono ?_
      rintro e w5 ⟨rfl, hb⟩
      have HB5 := Lib.hid (later HB.out hb)
      clear hb
      go_wp2
      go_ret
      exact ⟨rfl, HB5.out⟩
theorem row_made (w : World) (l : List (List UInt8)) (t : TypeId) (C : Array Value) (hC : C = (l.map fun x => Value.string (B x)).toArray) : RowArg (w.alloc (.cells C t)) (some ⟨w.heap.size, 0, none⟩) (l.map fun x => .string (B x)) := by
  intro j hj
  refine ⟨w.heap.size, 0, rfl, by rw [alloc_more]; omega, ?_⟩
  have h := cells_made w C t j (by rw [hC]; simpa using hj)
  rw [Nat.zero_add, h.1, hC]
  have hj' : j < l.length := by simpa using hj
  simp [hj']
theorem Pair_calls (w : World) (a b : List UInt8) (hO : Ok w) (hlen : a.length + b.length < 576460752303423480) :
    Calls Tryd.prog 14 #[.string (B a), .string (B b)] w fun e w' => e = .returned (.string (B (digest (1 :: (a ++ b))))) ∧ Below w.heap.size w w' := by
  have hba : Below w.heap.size w (w.alloc (.cells #[.string ⟨#[1]⟩, .string (B a), .string (B b)] 9)) := (Below.refl _ _).alloc (Nat.le_refl _) _
  have hr := row_made w [[1], a, b] 9 #[.string ⟨#[1]⟩, .string (B a), .string (B b)] rfl
  have hof := Of_calls (w.alloc (.cells #[.string ⟨#[1]⟩, .string (B a), .string (B b)] 9)) (some ⟨w.heap.size, 0, none⟩) 3 [[1], a, b] (hO.below hba) (by unfold maxLen; simp) hr (by simp; omega)
  rw [show ([[1], a, b] : List (List UInt8)).flatten = 1 :: (a ++ b) by simp] at hof
  have HF := Lib.hid hof
  have HB := Lib.hid hba
  clear hba hr hof
  go_enter Tryd.func14, Tryd.ntmps14
  go_wp2_with fail
  refine HF.out.mono ?_
  rintro e w5 ⟨rfl, hb⟩
  have HB5 := Lib.hid (later HB.out hb)
  clear hb
  go_wp2
  go_ret
  exact ⟨rfl, HB5.out⟩
theorem out_length (s : S8) : (out s).length = 32 := by simp [out]
theorem digest_length (s : List UInt8) : (digest s).length = 32 := out_length _
end Go.Proofs.YtjhmpoekpambaaaDoor.Sha
