/-
  The net (layer 30): how many bits a number has, the next power of two, the sort's random numbers. Condition: the number is below 65536.
-/
import Derived.Test.YtplfnjpoikhmbaaNtRow
import Derived.OpenShut
open Go Go.RowKit Go.Sort
namespace Go.Proofs.Ytplfnjpoikhmbaa.Nt
open Base

theorem wr64 (n : Int) (h : -9223372036854775808 ≤ n ∧ n ≤ 9223372036854775807) : wrap64 n = n := by unfold wrap64; omega
def TabOk (T : ByteArray) : Prop := ∀ i : Fin 256, (T.data[i.val]?.getD 0).toNat ≤ 8 ∧ (0 < i.val → 2 ^ (T.data[i.val]?.getD 0).toNat ≤ 2 * i.val)
theorem len_fin (T : ByteArray) (m : Nat) (hm : m < 256) (hs : m < T.size) (hall : TabOk T) :
    (T[m]'hs).toNat ≤ 8 ∧ (0 < m → 2 ^ (T[m]'hs).toNat ≤ 2 * m) := by
  have := hall ⟨m, hm⟩
  have e : T.data[m]?.getD 0 = T[m]'hs := by
    rw [Array.getElem?_eq_getElem (show m < T.data.size from hs)]; rfl
  simp only [e] at this
  exact this
theorem len_end0 (T : ByteArray) (n : Nat) (h : n < 256) (hs : n < T.size) (hall : TabOk T) : ∃ L : Nat, Ending.returned (.int .i64 (wrap64 (wrap64 ((T[n]'hs).toNat : Int)))) = Ending.returned (.int .i64 (L : Int)) ∧ L ≤ 16 ∧ (0 < n → 2 ^ L ≤ 2 * n) := by
  obtain ⟨h1, h2⟩ := len_fin T n h hs hall
  generalize (T[n]'hs).toNat = k at *
  exact ⟨k, by rw [wr64 (k : Int) (by omega), wr64 (k : Int) (by omega)], by omega, h2⟩
theorem len_end8 (T : ByteArray) (m n : Nat) (hm : m = n / 256) (h : m < 256) (h0 : 256 ≤ n) (hs : m < T.size) (hall : TabOk T) : ∃ L : Nat, Ending.returned (.int .i64 (wrap64 (8 + wrap64 ((T[m]'hs).toNat : Int)))) = Ending.returned (.int .i64 (L : Int)) ∧ L ≤ 16 ∧ (0 < n → 2 ^ L ≤ 2 * n) := by
  obtain ⟨h1, h2⟩ := len_fin T m h hs hall
  generalize (T[m]'hs).toNat = k at *
  refine ⟨8 + k, by rw [wr64 (k : Int) (by omega), wr64 _ (by omega)]; rfl, by omega, fun _ => ?_⟩
  have h3 := h2 (by omega)
  rw [Nat.pow_add]
  omega
set_option maxRecDepth 100000 in
set_option maxHeartbeats 4000000 in
theorem Len64_f (n : Nat) (hn : n < 65536) (w : World) : Calls Try.prog 43 #[.int .u64 (n : Int)] w fun e w' => (∃ L : Nat, e = .returned (.int .i64 (L : Int)) ∧ L ≤ 16 ∧ (0 < n → 2 ^ L ≤ 2 * n)) ∧ w' = w := by
  have t1 : decide ((4294967296 : Int) ≤ (n : Int)) = false := decide_eq_false (by omega)
  have t2 : decide ((65536 : Int) ≤ (n : Int)) = false := decide_eq_false (by omega)
  by_cases h : n < 256
  · have t3 : decide ((256 : Int) ≤ (n : Int)) = false := decide_eq_false (by omega)
    go_enter Try.func43, Try.ntmps43
    go_wp2
    go_ret
    refine ⟨len_end0 _ n h _ ?_, rfl⟩
    unfold TabOk
    decide +kernel
  · obtain ⟨m, hm⟩ : ∃ m : Nat, m = n / 256 := ⟨_, rfl⟩
    have t3 : decide ((256 : Int) ≤ (n : Int)) = true := decide_eq_true (by omega)
    have t4 : (n : Int) / 256 = (m : Int) := by omega
    have t5 : m < 256 := by omega
    have t6 : (m : Int) < 256 := by omega
    have t7 : (m : Int) % 256 = (m : Int) := by omega
    have HM := Lib.hid hm
    clear hm
    go_enter Try.func43, Try.ntmps43
    go_wp2
    go_ret
    refine ⟨len_end8 _ m n HM.out t5 (by omega) _ ?_, rfl⟩
    unfold TabOk
    decide +kernel
theorem Len_f (n : Nat) (hn : n < 65536) (w : World) : Calls Try.prog 32 #[.int .u64 (n : Int)] w fun e w' => (∃ L : Nat, e = .returned (.int .i64 (L : Int)) ∧ L ≤ 16 ∧ (0 < n → 2 ^ L ≤ 2 * n)) ∧ w' = w := by
  have h1 : IntKind.u64.wrap (n : Int) = (n : Int) := by rw [IntKind.wrap_u64]; omega
  have HC := Lib.hid (Len64_f n hn)
  go_enter Try.func32, Try.ntmps32
  go_wp2_with fail
  with_reducible refine (HC.out _).mono ?_
  rintro e w' ⟨⟨L, rfl, h1, h2⟩, rfl⟩
  go_wp2
  go_ret
  exact ⟨⟨L, rfl, h1, h2⟩, rfl⟩
theorem Next2_f (n : Nat) (hn : n < 65536) (w : World) : Calls Try.prog 45 #[.int .i64 (n : Int)] w fun e w' => (∃ M : Nat, e = .returned (.int .u64 (M : Int)) ∧ 1 ≤ M ∧ M ≤ 65536 ∧ (0 < n → M ≤ 2 * n)) ∧ w' = w := by
  have h1 : IntKind.u64.wrap (n : Int) = (n : Int) := by rw [IntKind.wrap_u64]; omega
  have HC := Lib.hid (Len_f n hn)
  go_enter Try.func45, Try.ntmps45
  go_wp2_with fail
  with_reducible refine (HC.out _).mono ?_
  rintro e w' ⟨⟨L, rfl, h1, h2⟩, rfl⟩
  go_wp2
  go_ret
  have hM : 2 ^ L ≤ 65536 := Nat.le_trans (Nat.pow_le_pow_right (by omega) h1) (by decide)
  have hW : IntKind.u64.wrap ((2 : Int) ^ L) = ((2 ^ L : Nat) : Int) := by
    rw [show ((2 : Int) ^ L) = ((2 ^ L : Nat) : Int) by simp]; generalize 2 ^ L = M at *; rw [IntKind.wrap_u64]; omega
  rw [hW]
  exact ⟨⟨2 ^ L, rfl, Nat.one_le_two_pow, hM, h2⟩, rfl⟩
/-- The sort's random numbers: some number; the cell holds it. -/
def RandAt (rb : Nat) (w w' : World) (r : Nat) : Prop := ∃ n, w' = (w.drewN n).setCell ⟨rb, 0, none⟩ (.int .u64 (r : Int))
theorem set_twice (w : World) (b o : Nat) (u v : Value) : (w.setCell ⟨b, o, none⟩ u).setCell ⟨b, o, none⟩ v = w.setCell ⟨b, o, none⟩ v := by
  rw [setCell_eq w, setCell_eq, setCell_eq, mapBlock_mapBlock]
  refine mapBlock_congr _ _ _ _ fun c _ _ _ => ?_
  apply Array.ext_getElem?
  intro i
  simp only [Array.getElem?_setIfInBounds, Array.size_setIfInBounds]
  split <;> rfl
theorem RandAt.set {rb : Nat} {w w1 : World} {r r' : Nat} (h : RandAt rb w w1 r) {v : Value} (hv : v = .int .u64 (r' : Int)) : RandAt rb w (w1.setCell ⟨rb, 0, none⟩ v).drew r' := by
  obtain ⟨n, rfl⟩ := h
  subst hv
  exact ⟨n + 1, by rw [set_twice]; rfl⟩
theorem xor_bound (x y : Int) : ∃ r : Nat, bits .xor .u64 x y = (r : Int) ∧ r < 18446744073709551616 := by
  have h := bounds_u64 (wf_bits .xor .u64 x y)
  exact ⟨(bits .xor .u64 x y).toNat, by omega, by omega⟩
set_option maxRecDepth 100000 in
set_option maxHeartbeats 4000000 in
theorem Rand_f (rb r : Nat) (w : World) (hc : w.cell? ⟨rb, 0, none⟩ = some (.int .u64 (r : Int))) (hf : w.frozen? ⟨rb, 0, none⟩ = false) :
    Calls Try.prog 46 #[.pointer (some ⟨rb, 0, none⟩)] w fun e w' => ∃ r' : Nat, r' < 18446744073709551616 ∧ e = .returned (.int .u64 (r' : Int)) ∧ RandAt rb w w' r' := by
  go_enter Try.func46, Try.ntmps46
  go_wp2
  go_region
  generalize IntKind.u64.wrap ((r : Int) * 8192) = y1
  obtain ⟨r1, e1, -⟩ := xor_bound (r : Int) y1
  rw [e1]
  clear e1
  have H1 := Lib.hid (show RandAt rb w ((w.setCell ⟨rb, 0, none⟩ (.int .u64 (r1 : Int))).drew) r1 from ⟨1, rfl⟩)
  have c1 : ((w.setCell ⟨rb, 0, none⟩ (.int .u64 (r1 : Int))).drew).cell? ⟨rb, 0, none⟩ = some (.int .u64 (r1 : Int)) := World.cell?_setCell_same _ _ _ hc
  have f1 : ((w.setCell ⟨rb, 0, none⟩ (.int .u64 (r1 : Int))).drew).frozen? ⟨rb, 0, none⟩ = false := (World.frozen?_setCell _ _ _ _).trans hf
  clear hc hf
  generalize (w.setCell ⟨rb, 0, none⟩ (.int .u64 (r1 : Int))).drew = w1 at *
  go_wp2
  go_region
  generalize (r1 : Int) / 128 = y2
  obtain ⟨r2, e2, -⟩ := xor_bound (r1 : Int) y2
  rw [e2]
  clear e2
  have H2 := Lib.hid (H1.out.set (v := .int .u64 (r2 : Int)) rfl)
  have c2 : ((w1.setCell ⟨rb, 0, none⟩ (.int .u64 (r2 : Int))).drew).cell? ⟨rb, 0, none⟩ = some (.int .u64 (r2 : Int)) := World.cell?_setCell_same _ _ _ c1
  have f2 : ((w1.setCell ⟨rb, 0, none⟩ (.int .u64 (r2 : Int))).drew).frozen? ⟨rb, 0, none⟩ = false := (World.frozen?_setCell _ _ _ _).trans f1
  clear c1 f1
  generalize (w1.setCell ⟨rb, 0, none⟩ (.int .u64 (r2 : Int))).drew = w2 at *
  go_wp2
  go_region
  generalize IntKind.u64.wrap ((r2 : Int) * 131072) = y3
  obtain ⟨r3, e3, hr3⟩ := xor_bound (r2 : Int) y3
  rw [e3]
  clear e3
  have H3 := Lib.hid (H2.out.set (v := .int .u64 (r3 : Int)) rfl)
  have c3 : ((w2.setCell ⟨rb, 0, none⟩ (.int .u64 (r3 : Int))).drew).cell? ⟨rb, 0, none⟩ = some (.int .u64 (r3 : Int)) := World.cell?_setCell_same _ _ _ c2
  clear c2 f2
  generalize (w2.setCell ⟨rb, 0, none⟩ (.int .u64 (r3 : Int))).drew = w3 at *
  go_wp2
  go_ret
  exact ⟨r3, hr3, rfl, H3.out⟩
end Go.Proofs.Ytplfnjpoikhmbaa.Nt
