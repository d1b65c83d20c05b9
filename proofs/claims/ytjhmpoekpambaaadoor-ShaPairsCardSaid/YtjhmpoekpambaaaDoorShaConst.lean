/-
  The document's constants of layer 4: Primes and Constants, walked; that they are the code's tables.
-/
import Derived.Test.YtjhmpoekpambaaaDoorShaNum
import Derived.Test.YtjhmpoekpambaaaDoorKept
import Derived.Maps.AppendAt
open Go Go.RowKit
namespace Go.Proofs.YtjhmpoekpambaaaDoor.Sha
open Base

def Ps : List Nat := [2, 3, 5, 7, 11, 13, 17, 19, 23, 29, 31, 37, 41, 43, 47, 53, 59, 61, 67, 71, 73, 79, 83, 89, 97, 101, 103, 107, 109, 113, 127, 131, 137, 139, 149, 151, 157, 163, 167, 173, 179, 181, 191, 193, 197, 199, 211, 223, 227, 229, 233, 239, 241, 251, 257, 263, 269, 271, 277, 281, 283, 293, 307, 311]
def upTo (p : Nat) : List Nat := Ps.filter (· < p)
def pv (l : List Nat) : List Value := l.map fun (q : Nat) => .int .u64 (q : Int)
theorem pv_length (l : List Nat) : (pv l).length = l.length := List.length_map ..
theorem pv_at (l : List Nat) (k : Nat) (h : k < l.length) : (pv l)[k]'(by rw [pv_length]; exact h) = .int .u64 ((l[k] : Nat) : Int) := by simp [pv]
theorem pv_snoc (l : List Nat) (q : Nat) : pv (l ++ [q]) = pv l ++ [.int .u64 (q : Int)] := by simp [pv]
def isOne (p : Nat) (l : List Nat) : Bool := l.all fun q => decide (p % q ≠ 0)
theorem isOne_snoc (p q : Nat) (l : List Nat) : isOne p (l ++ [q]) = (isOne p l && decide (p % q ≠ 0)) := by simp [isOne]
theorem ne_op (p q : Nat) : ((p : Int) % (q : Int) != 0) = decide (p % q ≠ 0) := by
  rw [Bool.eq_iff_iff]
  simp only [bne_iff_ne, decide_eq_true_eq]
  omega
set_option maxRecDepth 100000 in
theorem primes_facts : ∀ p : Fin 312, (upTo p.val).length < 64 ∧ (2 ≤ p.val → ((upTo p.val).all (fun q => decide (2 ≤ q))) = true ∧ upTo (p.val + 1) = if isOne p.val (upTo p.val) then upTo p.val ++ [p.val] else upTo p.val) := by decide +kernel
theorem upTo_all : upTo 312 = Ps := by decide +kernel
theorem primes64 : Ps.length = 64 := by decide
theorem infoU64 : (Tryd.prog.info? 31).map (fun i => (i.zero, i.size, i.bytes)) = some (some (.int .u64 0), 1, 8) := by kernel_rfl
theorem infoU32 : (Tryd.prog.info? 42).map (fun i => (i.zero, i.size, i.bytes)) = some (some (.int .u32 0), 1, 4) := by kernel_rfl

set_option maxHeartbeats 2000000 in
theorem Primes_calls (w : World) : Calls Tryd.prog 22 #[.int .i64 64] w fun e w' => ∃ v, e = .returned v ∧ w'.ownsRow w.heap.size 31 1 v 64 (pv Ps) ∧ Below w.heap.size w w' := by
  obtain ⟨i0, hi, hz0, hz1, hz2⟩ := info_parts infoU64
  go_enter Tryd.func22, Tryd.ntmps22
  go_wp2
  go_loopw [3, 4] (fun v u wr => ∃ p : Nat, 2 ≤ p ∧ p ≤ 312 ∧ u = .int .u64 p ∧ wr.ownsRow w.heap.size 31 1 v (upTo p).length (pv (upTo p)) ∧ Below w.heap.size w wr) (fun _ u _ => 400 - (intOf u).toNat)
  case atStart => exact ⟨2, by omega, by omega, rfl, World.ownsRow_nil w w.heap.size 31 1, Below.refl _ _⟩
  case round =>
    obtain ⟨p, h2, h3, rfl, hown, hb⟩ := hrel
    have HB := Lib.hid hb
    have HO := Lib.hid hown
    obtain ⟨a, cap, rfl, hra, -, -⟩ := RowArg.of_own hown
    have HRA := Lib.hid hra
    clear hb hown hra
    by_cases hlt : p < 312
    · obtain ⟨hl, hr⟩ := primes_facts ⟨p, hlt⟩
      obtain ⟨hall, hnext⟩ := hr h2
      have HALL := Lib.hid hall
      have HN := Lib.hid hnext
      have hl' : (upTo p).length < 64 := hl
      have t1 : ((upTo p).length : Int) < 64 := by omega
      clear hall hnext hr hl h3
      have HSZ := Lib.hid (show upTo p = upTo p from rfl)
      generalize upTo p = l at *
      go_wp2
      go_loop [5, 6] (fun b u => ∃ k : Nat, k ≤ l.length ∧ u = .int .i64 k ∧ b = .bool (isOne p (l.take k))) (fun _ u => l.length - (intOf u).toNat)
      case atStart => exact ⟨0, Nat.zero_le _, rfl, rfl⟩
      case round =>
        obtain ⟨k, hk, rfl, rfl⟩ := hrel
        by_cases hkl : k < l.length
        · obtain ⟨bb, off, rfl, hbl, hc⟩ := HRA.out k (by rw [pv_length]; exact hkl)
          rw [pv_at _ _ hkl] at hc
          have hq : 2 ≤ l[k] := by simpa using List.all_eq_true.1 HALL.out l[k] (List.getElem_mem hkl)
          have HS := Lib.hid (show isOne p (l.take (k + 1)) = (isOne p (l.take k) && decide (p % l[k] ≠ 0)) by rw [List.take_succ_eq_append_getElem hkl, isOne_snoc])
          have t2 : (k : Int) < (l.length : Int) := by omega
          generalize l[k] = q at *
          generalize isOne p (l.take k) = b at *
          cases b
          · go_wp2
            exact ⟨⟨k + 1, by omega, by go_num, by rw [HS.out]; rfl⟩, by simp [intOf]; omega⟩
          · go_wp2
            exact ⟨⟨k + 1, by omega, by go_num, by rw [HS.out, ne_op, Bool.true_and]⟩, by simp [intOf]; omega⟩
        · obtain rfl : k = l.length := by omega
          rw [List.take_length]
          generalize isOne p l = b at *
          have HSZ := Lib.hid (HB.out.size)
          cases b
          · go_wp2
            exact ⟨⟨p + 1, by omega, by omega, by go_num, by rw [HN.out]; exact HO.out, HB.out⟩, by simp [intOf]; omega⟩
          · go_wp2_with (at_builtin; refine wpList_append_own _ rfl _ _ 51 rfl w.heap.size 31 i0 (.int .u64 0) 1 8 Tryd.underlying51 hi hz0 hz1 hz2 rfl (by decide) _ _ _ rfl (HO.out.alloc _) ⟨wr.heap.size, 0, none⟩ 1 1 [.int .u64 (p : Int)] rfl rfl ?c1 ?c2 ?c3 ?c4 ?c5 ?_)
            case c2 => simp [Value.oneCell']
            case c3 => unfold maxLen; omega
            case c4 => omega
            case c5 => have := HSZ.out; simp; omega
            intro v' w2 hown2 hg2 _
            have HO2 := Lib.hid hown2
            have HB2 := Lib.hid ((HB.out.alloc HSZ.out _).grown hg2 (by have := HSZ.out; simp; omega) (fun q hq => (HO.out.lt q hq).1))
            clear hown2 hg2
            go_wp2
            exact ⟨⟨p + 1, by omega, by omega, by go_num, by rw [HN.out, if_pos trivial, List.length_append, pv_snoc]; exact HO2.out, HB2.out⟩, by simp [intOf]; omega⟩
    · obtain rfl : p = 312 := by omega
      have hl : (upTo 312).length = 64 := by rw [upTo_all]; rfl
      go_wp2
      go_ret
      exact ⟨_, rfl, by have := HO.out; rw [upTo_all] at this; exact this, HB.out⟩

/-! ### Constants -/
def H0l : List UInt32 := [H0.a, H0.b, H0.c, H0.d, H0.e, H0.f, H0.g, H0.h]
def uv (l : List UInt32) : List Value := l.map fun x => .int .u32 (U x)
theorem uv_length (l : List UInt32) : (uv l).length = l.length := List.length_map ..
theorem uv_at (l : List UInt32) (k : Nat) (h : k < l.length) : (uv l)[k]'(by rw [uv_length]; exact h) = .int .u32 (U l[k]) := by simp [uv]
theorem uv_snoc (l : List UInt32) (q : UInt32) : uv (l ++ [q]) = uv l ++ [.int .u32 (U q)] := by simp [uv]
set_option maxRecDepth 100000 in
theorem const_facts : ∀ i : Fin 64, fractionF (UInt64.ofNat (Ps.getD i.val 0)) true = Ks.getD i.val 0 ∧ (i.val < 8 → fractionF (UInt64.ofNat (Ps.getD i.val 0)) false = H0l.getD i.val 0) ∧ Ps.getD i.val 0 < 312 := by decide +kernel
theorem fraction_n (n : Nat) (h : n < 312) (three : Bool) (w : World) :
    Calls Tryd.prog 23 #[.int .u64 (n : Int), .bool three] w fun e w' => e = .returned (.int .u32 (U (fractionF (UInt64.ofNat n) three))) ∧ w = w' := by
  have e : (n : Int) = V (UInt64.ofNat n) := by
    unfold V
    rw [UInt64.toNat_ofNat_of_lt' (by show n < 18446744073709551616; omega)]
  rw [e]
  exact fraction_calls _ _ w
/-- Two slices of the call's own that lie in two blocks. -/
def Apart (a b : Value) : Prop := ∀ q, a.ownBlock = some q → b.ownBlock ≠ some q
theorem Apart.symm {a b : Value} (h : Apart a b) : Apart b a := fun q hq h2 => h q h2 hq
theorem Apart.kept {w w' : World} {base : Nat} {e : TypeId} {size : Nat} {a b : Value} {n : Nat} {xs : List Value} (h : Apart a b) (ho : w.ownsRow base e size b n xs) (hg : w.grownBy w' a.ownBlock) : w'.ownsRow base e size b n xs := by
  refine ho.kept hg ?_
  rcases hb : b.ownBlock with _ | q
  · exact .inl rfl
  · exact .inr fun h2 => h q h2.symm hb
theorem Apart.next {w : World} {base : Nat} {e : TypeId} {size : Nat} {a a' b : Value} {n : Nat} {xs : List Value} (h : Apart a b) (ho : w.ownsRow base e size b n xs) (hat : a'.ownBlock = a.ownBlock ∨ a'.ownBlock = some w.heap.size) : Apart a' b := fun q hq hb => by
  rcases hat with h1 | h1
  · exact h q (h1 ▸ hq) hb
  · rw [h1] at hq
    injection hq with hq
    have := (ho.lt q hb).2
    omega
theorem apart_nil (b : Value) : Apart (.slice none 0 0) b := fun q hq => by cases hq

set_option maxHeartbeats 4000000 in
theorem Constants_calls (w : World) : Calls Tryd.prog 15 #[] w fun e w' => ∃ k h, e = .returned (.tuple #[k, h]) ∧ w'.ownsRow w.heap.size 42 1 k 64 (uv Ks) ∧ w'.ownsRow w.heap.size 42 1 h 8 (uv H0l) ∧ Below w.heap.size w w' := by
  obtain ⟨i0, hi, hz0, hz1, hz2⟩ := info_parts infoU32
  go_enter Tryd.func15, Tryd.ntmps15
  go_wp2_with fail
  refine (Primes_calls w).mono ?_
  rintro e w1 ⟨v, rfl, hown, hb⟩
  have HB1 := Lib.hid hb
  obtain ⟨a, cap, rfl, hra, -, -⟩ := RowArg.of_own hown
  have HRA := Lib.hid hra
  clear hown hra hb
  go_wp2
  go_loopw [2, 3, 5] (fun k h u wr => ∃ i : Nat, i ≤ 64 ∧ u = .int .i64 i ∧ wr.ownsRow w1.heap.size 42 1 k i (uv (Ks.take i)) ∧ wr.ownsRow w1.heap.size 42 1 h (min i 8) (uv (H0l.take (min i 8))) ∧ Apart k h ∧ Below w1.heap.size w1 wr) (fun _ _ u _ => 64 - (intOf u).toNat)
  case atStart => exact ⟨0, by omega, rfl, World.ownsRow_nil _ _ _ _, World.ownsRow_nil _ _ _ _, apart_nil _, Below.refl _ _⟩
  case round =>
    obtain ⟨i, hi64, rfl, hk, hh, hap, hb⟩ := hrel
    have HB := Lib.hid hb
    have HSZ := Lib.hid hb.size
    have HK := Lib.hid hk
    have HH := Lib.hid hh
    have HAP := Lib.hid hap
    clear hk hh hap
    by_cases hlt : i < 64
    · obtain ⟨hf1, hf2, hp⟩ := const_facts ⟨i, hlt⟩
      have hpl : i < Ps.length := by rw [primes64]; exact hlt
      obtain ⟨bb, off, rfl, hbl, hc1⟩ := HRA.out i (by rw [pv_length]; exact hpl)
      rw [pv_at _ _ hpl] at hc1
      have hg : Ps.getD i 0 = Ps[i] := by simp [hpl]
      have hkn : Ks.take (i + 1) = Ks.take i ++ [Ks.getD i 0] := by
        have : i < Ks.length := hlt
        rw [List.take_succ_eq_append_getElem this]; simp [this]
      have HKN := Lib.hid hkn
      have HF1 := Lib.hid (show ∀ W, Calls Tryd.prog 23 #[.int .u64 (Ps[i] : Nat), .bool true] W fun e w' => e = .returned (.int .u32 (U (Ks.getD i 0))) ∧ W = w' from fun W => by
        have := fraction_n Ps[i] (by rw [← hg]; exact hp) true W
        rw [← hg] at this ⊢
        rwa [hf1] at this)
      have HF2 := Lib.hid (show i < 8 → ∀ W, Calls Tryd.prog 23 #[.int .u64 (Ps[i] : Nat), .bool false] W fun e w' => e = .returned (.int .u32 (U (H0l.getD i 0))) ∧ W = w' from fun h8 W => by
        have := fraction_n Ps[i] (by rw [← hg]; exact hp) false W
        rw [← hg] at this ⊢
        rwa [hf2 h8] at this)
      have HHN := Lib.hid (show i < 8 → H0l.take (i + 1) = H0l.take i ++ [H0l.getD i 0] from fun h8 => by
        have : i < H0l.length := h8
        rw [List.take_succ_eq_append_getElem this]; simp [this])
      have t1 : (i : Int) < 64 := by omega
      clear hf1 hf2 hp hkn hb
      rw [← hg] at hc1
      rw [← hg] at HF1 HF2
      have hc := (HB.out.cell (p := ⟨bb, off + i, none⟩) hbl).trans hc1
      have HC1 := Lib.hid (show ∀ W, Below w1.heap.size w1 W → W.cell? ⟨bb, off + i, none⟩ = some (.int .u64 (Ps.getD i 0 : Nat)) from fun W hb => (hb.cell (p := ⟨bb, off + i, none⟩) hbl).trans hc1)
      clear hc1
      clear hg hpl
      generalize Ps.getD i 0 = p at *
      generalize Ks.getD i 0 = kx at *
      generalize H0l.getD i 0 = hx at *
      go_wp2_with fail
      refine (HF1.out _).mono ?_
      rintro e w2 ⟨rfl, rfl⟩
      go_wp2_with (at_builtin; refine wpList_append_own_at _ rfl _ _ 37 rfl w1.heap.size 42 i0 (.int .u32 0) 1 4 Tryd.underlying37 hi hz0 hz1 hz2 rfl (by decide) _ _ _ rfl (HK.out.alloc _) ⟨wr.heap.size, 0, none⟩ 1 1 [.int .u32 (U kx)] rfl rfl ?c1 ?c2 ?c3 ?c4 ?c5 ?_)
      case c1 => exact cell_one_new _ _ _
      case c2 => simp [Value.oneCell']
      case c3 => unfold maxLen; omega
      case c4 => omega
      case c5 => have := HSZ.out; simp; omega
      intro k' w3 hown2 hg2 _ hat
      have HB3 := Lib.hid ((HB.out.alloc HSZ.out _).grown hg2 (by have := HSZ.out; simp; omega) (fun q hq => (HK.out.lt q hq).1))
      have HH3 := Lib.hid (HAP.out.kept (HH.out.alloc (.cells #[.int .u32 (U kx)] 42)) hg2)
      have HAP3 := Lib.hid (HAP.out.next (HH.out.alloc (.cells #[.int .u32 (U kx)] 42)) (by rw [alloc_more]; exact hat))
      have HK3 := Lib.hid hown2
      have hc3 := HC1.out w3 HB3.out
      have HSZ3 := Lib.hid HB3.out.size
      clear hown2 hg2 hat hc
      by_cases h8 : i < 8
      · have t2 : (i : Int) < 8 := by omega
        have HHN2 := Lib.hid (HHN.out h8)
        have HF3 := Lib.hid (HF2.out h8)
        have hh := HH3.out
        rw [show min i 8 = i by omega] at hh
        have hap := HAP3.out.symm
        have HH4 := Lib.hid hh
        have HAP4 := Lib.hid hap
        clear hh hap
        go_wp2_with fail
        refine (HF3.out _).mono ?_
        rintro e w4 ⟨rfl, rfl⟩
        go_wp2_with (at_builtin; refine wpList_append_own_at _ rfl _ _ 37 rfl w1.heap.size 42 i0 (.int .u32 0) 1 4 Tryd.underlying37 hi hz0 hz1 hz2 rfl (by decide) _ _ _ rfl (HH4.out.alloc _) ⟨w3.heap.size, 0, none⟩ 1 1 [.int .u32 (U hx)] rfl rfl ?c6 ?c7 ?c8 ?c9 ?c10 ?_)
        case c6 => exact cell_one_new _ _ _
        case c7 => simp [Value.oneCell']
        case c8 => unfold maxLen; omega
        case c9 => omega
        case c10 => have := HSZ3.out; simp; omega
        intro h' w5 hown2 hg2 _ hat
        have HB5 := Lib.hid ((HB3.out.alloc HSZ3.out _).grown hg2 (by have := HSZ3.out; simp; omega) (fun q hq => (HH4.out.lt q hq).1))
        have HK5 := Lib.hid (HAP4.out.kept (HK3.out.alloc (.cells #[.int .u32 (U hx)] 42)) hg2)
        have HAP5 := Lib.hid (HAP4.out.next (HK3.out.alloc (.cells #[.int .u32 (U hx)] 42)) (by rw [alloc_more]; exact hat)).symm
        have HH5 := Lib.hid hown2
        clear hown2 hg2 hat
        go_wp2
        go_roundw
        case rel => exact ⟨i + 1, by omega, by go_num, by rw [HKN.out, uv_snoc]; exact HK5.out, by rw [show min (i + 1) 8 = i + 1 by omega, HHN2.out, uv_snoc]; exact HH5.out, HAP5.out, HB5.out⟩
        case measure => simp [intOf]; omega
      · have t2 : ¬ (i : Int) < 8 := by omega
        go_wp2
        go_roundw
        case rel => exact ⟨i + 1, by omega, by go_num, by rw [HKN.out, uv_snoc]; exact HK3.out, by have := HH3.out; rw [show min i 8 = 8 by omega] at this; rw [show min (i + 1) 8 = 8 by omega]; exact this, HAP3.out, HB3.out⟩
        case measure => simp [intOf]; omega
    · obtain rfl : i = 64 := by omega
      have HBB := Lib.hid (later HB1.out HB.out)
      have HLO := Lib.hid HB1.out.size
      go_wp2
      go_ret2
      exact ⟨_, _, rfl, own_lower HK.out HLO.out, own_lower HH.out HLO.out, HBB.out⟩
end Go.Proofs.YtjhmpoekpambaaaDoor.Sha
