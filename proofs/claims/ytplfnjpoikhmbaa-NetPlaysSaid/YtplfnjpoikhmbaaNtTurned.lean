/-
  NetTurned (layer 30): a message that is turned twice alike is what it was, one that is turned is another one, and no other one is turned with it.
  Condition: texts no longer than a string may be.
-/
import Derived.Test.YtplfnjpoikhmbaaNtWorks
open Go Go.RowKit
namespace Go.Proofs.Ytplfnjpoikhmbaa.Nt
open Base Mp

theorem rows_len {w : World} {base n : Nat} {v : Value} {G : List GramD} (h : w.ownsRow base 32 3 v n (G.flatMap gramC)) : ∃ p cap, v = .slice p n cap ∧ (∀ i (hi : i < G.length), i < n → ∃ g, p = some ⟨g, 0, none⟩ ∧ base ≤ g ∧ w.cell? ⟨g, i * 3, none⟩ = some (.int .u64 (G[i].id : Int)) ∧ w.cell? ⟨g, i * 3 + 1, none⟩ = some (.string (B G[i].whom)) ∧ w.cell? ⟨g, i * 3 + 2, none⟩ = some (.string (B G[i].text))) := by
  obtain ⟨-, ⟨rfl, rfl⟩ | ⟨g, cap, cur, rfl, hg, hb, hnc, hcm, hcs, ht⟩⟩ := h
  · exact ⟨none, 0, rfl, fun i _ hi => absurd hi (by omega)⟩
  · refine ⟨_, cap, rfl, fun i hi hin => ⟨g, rfl, hg, ?_⟩⟩
    have key : ∀ j, j < 3 → cur[i * 3 + j]? = (gramC G[i])[j]? := by
      intro j hj
      have h1 : (cur.toList.take (n * 3))[i * 3 + j]? = (G.flatMap gramC)[i * 3 + j]? := by rw [ht]
      rw [List.getElem?_take_of_lt (by omega)] at h1
      rw [← Array.getElem?_toList, h1]
      have : ∀ (G : List GramD) (i : Nat) (hi : i < G.length), (G.flatMap gramC)[i * 3 + j]? = (gramC G[i])[j]? := by
        intro G
        induction G with
        | nil => intro i hi; simp at hi
        | cons y r ih =>
          intro i hi
          cases i with
          | zero =>
            rw [List.flatMap_cons, List.getElem?_append_left (by simp [gramC]; omega)]
            simp
          | succ i =>
            rw [List.flatMap_cons, List.getElem?_append_right (by simp [gramC]; omega), show (i + 1) * 3 + j - (gramC y).length = i * 3 + j by simp [gramC]; omega]
            exact ih i (by simpa using hi)
      exact this G i hi
    have k0 := key 0 (by omega)
    have k1 := key 1 (by omega)
    have k2 := key 2 (by omega)
    simp only [World.cell?, hb]
    exact ⟨by simpa [gramC] using k0, by simpa [gramC] using k1, by simpa [gramC] using k2⟩
theorem turnT_length (t : List UInt8) (a : Nat) (y : UInt8) : (turnT t a y).length = t.length := by simp [turnT]
theorem turnT_twice (t : List UInt8) (a : Nat) (y : UInt8) : turnT (turnT t a y) a y = t := by
  by_cases ha : a < t.length
  · unfold turnT
    rw [List.getElem?_set_self ha, List.getElem?_eq_getElem ha]
    simp only [Option.getD_some, List.set_set]
    rw [UInt8.xor_assoc, UInt8.xor_self, UInt8.xor_zero]
    exact List.set_getElem_self ha
  · unfold turnT
    rw [List.set_eq_of_length_le (by simp; omega), List.set_eq_of_length_le (by omega)]
theorem turnT_same (t : List UInt8) (a : Nat) (y : UInt8) (ha : a < t.length) : (turnT t a y == t) = (y == 0) := by
  rw [Bool.eq_iff_iff, beq_iff_eq, beq_iff_eq]
  unfold turnT
  rw [List.getElem?_eq_getElem ha, Option.getD_some]
  constructor
  · intro h
    have h1 : (t.set a (t[a] ^^^ y))[a]? = t[a]? := by rw [h]
    rw [List.getElem?_set_self ha, List.getElem?_eq_getElem ha] at h1
    have h2 := Option.some.inj h1
    have h3 : t[a] ^^^ (t[a] ^^^ y) = t[a] ^^^ t[a] := by rw [h2]
    rwa [← UInt8.xor_assoc, UInt8.xor_self, UInt8.zero_xor] at h3
  · rintro rfl
    rw [UInt8.xor_zero]
    exact List.set_getElem_self ha
def t30 (a b : List UInt8) : NetD := ⟨[⟨1, [120], a⟩, ⟨2, [120], b⟩], 2, 0⟩
theorem t30_turnE (a b : List UInt8) (k : Nat) (hk : k < a.length) : turnE (t30 a b) 1 (k : Int) = 0 := by
  show (if (k : Int) < 0 ∨ (a.length : Int) ≤ (k : Int) then (2 : Int) else 0) = 0
  exact if_neg (by omega)
theorem t30_turnR (a b : List UInt8) (k : Nat) (y : UInt8) (hk : k < a.length) : turnR (t30 a b) 1 (k : Int) y = t30 (turnT a k y) b := by
  unfold turnR
  rw [t30_turnE a b k hk, if_pos rfl]
  rfl
set_option maxRecDepth 100000 in
set_option maxHeartbeats 8000000 in
theorem NetTurned_calls (w : World) (a b : List UInt8) (at_ by_ : Nat) (ha : a.length ≤ 140737488351232) (hb : b.length ≤ 140737488351232) (hat : at_ < 256) (hby : by_ < 256) : Calls Try.prog 3 #[.string (B a), .string (B b), .int .u8 (at_ : Int), .int .u8 (by_ : Int)] w fun e w' => e = .returned (.bool true) ∧ Below w.heap.size w w' := by
  have HW := Lib.hid Works_f
  by_cases hl : 4096 < a.length + b.length
  · have t1 : (4096 : Int) < (a.length : Int) + (b.length : Int) := by omega
    go_enter Try.func3, Try.ntmps3
    go_wp2_with fail
    with_reducible refine (HW.out _).mono ?_
    rintro e w1 ⟨rfl, hb⟩
    have HB := Lib.hid hb
    clear hb
    go_wp2
    go_ret
    exact ⟨rfl, HB.out⟩
  · have t1 : ¬ (4096 : Int) < (a.length : Int) + (b.length : Int) := by omega
    by_cases h0 : a.length = 0
    · have t2 : ((a.length : Int) == 0) = true := by rw [h0]; rfl
      clear h0
      go_enter Try.func3, Try.ntmps3
      go_wp2_with fail
      with_reducible refine (HW.out _).mono ?_
      rintro e w1 ⟨rfl, hb⟩
      have HB := Lib.hid hb
      clear hb
      go_wp2
      go_ret
      exact ⟨rfl, HB.out⟩
    · have t2 : ((a.length : Int) == 0) = false := by rw [beq_eq_false_iff_ne]; omega
      have t3 : (a.length : Int) ≠ 0 := by omega
      obtain ⟨y, rfl⟩ : ∃ y : UInt8, by_ = y.toNat := ⟨UInt8.ofNat by_, by rw [UInt8.toNat_ofNat']; exact (Nat.mod_eq_of_lt hby).symm⟩
      obtain ⟨k, hk⟩ : ∃ k : Nat, k = at_ % a.length := ⟨_, rfl⟩
      have hka : k < a.length := by rw [hk]; exact Nat.mod_lt _ (by omega)
      have t4 : (at_ : Int).tmod (a.length : Int) = (k : Int) := by rw [hk]; rfl
      have t5 : (at_ : Int) % (a.length : Int) = (k : Int) := by rw [hk]; rfl
      have HE1 := Lib.hid (t30_turnE a b k hka)
      have HE2 := Lib.hid (t30_turnR a b k y hka)
      have HE3 := Lib.hid (t30_turnE (turnT a k y) b k (by rw [turnT_length]; exact hka))
      have HE4 := Lib.hid (show turnR (t30 (turnT a k y) b) 1 (k : Int) y = t30 a b by rw [t30_turnR (turnT a k y) b k y (by rw [turnT_length]; exact hka), turnT_twice])
      have HL := Lib.hid (turnT_length a k y)
      have HQ := Lib.hid (turnT_same a k y hka)
      have HN := Lib.hid (New_f w)
      clear hk h0
      generalize turnT a k y = a2 at *
      go_enter Try.func3, Try.ntmps3
      go_wp2_with fail
      with_reducible refine HN.out.mono ?_
      rintro e w1 ⟨nb, bm, rfl, hn1, hb1, hlb, hlm⟩
      have hr : Below w1.heap.size w1 (w1.alloc (.cells #[.string (B a), .string (B b)] 9)) := (Below.refl _ _).alloc (Nat.le_refl _) _
      have hc := cells_made w1 #[.string (B a), .string (B b)] 9
      have HS : Hid (Calls Try.prog 10 #[.pointer (some ⟨nb, 0, none⟩), .string ⟨#[120]⟩, .slice (some ⟨w1.heap.size, 0, none⟩) 2 2] (w1.alloc (.cells #[.string (B a), .string (B b)] 9)) fun e w' => e = .returned (.int .i64 2) ∧ NetAt w' nb bm (t30 a b) ∧ Kept (fun i => i = nb ∨ i = bm) (w1.alloc (.cells #[.string (B a), .string (B b)] 9)) w') :=
        Send_f (hn1.next hr) [120] [a, b] w1.heap.size 2 (fun j hj => by
          have hj2 : j < 2 := hj
          have := (hc j hj2).1
          rw [this]
          have : j = 0 ∨ j = 1 := by omega
          rcases this with rfl | rfl <;> rfl) (by have := hn1.lt; omega) (by have := hn1.map.lt; omega) (by show 0 + 2 < _; omega) (by show 0 + 2 < _; omega)
      have HB1 := Lib.hid (hb1.alloc (hb1.size) (.cells #[.string (B a), .string (B b)] 9))
      have HLO := Lib.hid (And.intro hlb hlm)
      clear hn1 hb1 hlb hlm hr hc HN
      unfold ptr
      go_wp2_with fail
      with_reducible refine HS.out.mono ?_
      rintro e w2 ⟨rfl, hn2, hk2⟩
      have HB2 := Lib.hid (HB1.out.trans (hk2.below (fun i hi => by have := HLO.out; show w.heap.size ≤ i; rcases hi with rfl | rfl <;> omega) HB1.out.size))
      have HT1 := Lib.hid (Turn_f hn2 1 (k : Int) y (by omega))
      rw [HE1.out, HE2.out] at HT1
      unfold ptr at HT1
      clear hn2 hk2 HB1 HS
      go_wp2_with fail
      refine HT1.out.mono ?_
      rintro e w3 ⟨rfl, hn3, hk3⟩
      have HB3 := Lib.hid (HB2.out.trans (hk3.below (fun i hi => by have := HLO.out; show w.heap.size ≤ i; omega) HB2.out.size))
      have HA := Lib.hid (All_f hn3 (by show 2 < _; omega))
      have HN3 := Lib.hid hn3
      unfold ptr at HA
      clear hn3 hk3 HB2 HT1
      go_wp2_with fail
      with_reducible refine HA.out.mono ?_
      rintro e w4 ⟨v, rfl, hr4, hb4⟩
      have HB4 := Lib.hid (HB3.out.trans (hb4.mono HB3.out.size))
      have HN4 := Lib.hid (HN3.out.next hb4)
      have hr4' : w4.ownsRow w3.heap.size 32 3 v 2 ((t30 a2 b).G.flatMap gramC) := hr4
      obtain ⟨p, cap, rfl, hrows⟩ := rows_len hr4'
      obtain ⟨g, rfl, -, -, -, l0⟩ := hrows 0 (by show 0 < 2; omega) (by omega)
      obtain ⟨g', e', -, -, -, l1⟩ := hrows 1 (by show 1 < 2; omega) (by omega)
      obtain rfl : g = g' := by injection e' with e'; injection e'
      have q0 : w4.cell? ⟨g, 2, none⟩ = some (.string (B a2)) := l0
      have q1 : w4.cell? ⟨g, 5, none⟩ = some (.string (B b)) := l1
      have HT2 := Lib.hid (Turn_f HN4.out 1 (k : Int) y (by omega))
      rw [HE3.out, HE4.out] at HT2
      unfold ptr at HT2
      have u1 : (a2.length : Int) = (a.length : Int) := by rw [HL.out]
      have u2 : (a2 == a) = (y == 0) := HQ.out
      have u3 : ((y.toNat : Int) == 0) = (y == 0) := by
        rw [Bool.eq_iff_iff]
        simp
        rw [← UInt8.toNat_inj]
        simp
      clear hr4 hr4' hb4 hrows l0 l1 e' HN3 HA HB3
      go_wp2_with fail
      refine HT2.out.mono ?_
      rintro e w5 ⟨rfl, hn5, hk5⟩
      have HB5 := Lib.hid (HB4.out.trans (hk5.below (fun i hi => by have := HLO.out; show w.heap.size ≤ i; omega) HB4.out.size))
      have HT3 : Hid (Calls Try.prog 13 #[.pointer (some ⟨nb, 0, none⟩), .int .u64 1] w5 fun e w' => e = .returned (.tuple #[.agg #[.int .u64 1, .string ⟨#[120]⟩, .string (B a)], .int .i64 0]) ∧ NetAt w' nb bm ⟨[⟨2, [120], b⟩], 2, 0⟩ ∧ Kept (fun i => i = bm) w5 w') := Take_f hn5 1 (by omega)
      clear hn5 hk5 HT2 HB4 HN4 u1 u2 u3 q0 q1
      go_wp2_with fail
      with_reducible refine HT3.out.mono ?_
      rintro e w6 ⟨rfl, hn6, hk6⟩
      have HB6 := Lib.hid (HB5.out.trans (hk6.below (fun i hi => by have := HLO.out; show w.heap.size ≤ i; omega) HB5.out.size))
      have hal : Below w6.heap.size w6 (w6.alloc (.cells #[.int .u64 1, .string ⟨#[120]⟩, .string (B a)] 32)) := (Below.refl _ _).alloc (Nat.le_refl _) _
      have HG := Lib.hid (show GramAt (w6.alloc (.cells #[.int .u64 1, .string ⟨#[120]⟩, .string (B a)] 32)) w6.heap.size ⟨1, [120], a⟩ from gram_made w6 ⟨1, [120], a⟩)
      have HT4 : Hid (Calls Try.prog 13 #[.pointer (some ⟨nb, 0, none⟩), .int .u64 2] (w6.alloc (.cells #[.int .u64 1, .string ⟨#[120]⟩, .string (B a)] 32)) fun e w' => e = .returned (.tuple #[.agg #[.int .u64 2, .string ⟨#[120]⟩, .string (B b)], .int .i64 0]) ∧ NetAt w' nb bm ⟨[], 2, 0⟩ ∧ Kept (fun i => i = bm) (w6.alloc (.cells #[.int .u64 1, .string ⟨#[120]⟩, .string (B a)] 32)) w') := Take_f (hn6.next hal) 2 (by omega)
      have HB7 := Lib.hid (HB6.out.alloc HB6.out.size (.cells #[.int .u64 1, .string ⟨#[120]⟩, .string (B a)] 32))
      have HM6 := Lib.hid hn6.map.lt
      have HS6 := Lib.hid (alloc_more w6 (.cells #[.int .u64 1, .string ⟨#[120]⟩, .string (B a)] 32))
      clear hn6 hk6 HB5 HB6 HT3 hal
      go_wp2_with fail
      with_reducible refine HT4.out.mono ?_
      rintro e w8 ⟨rfl, hn8, hk8⟩
      have hsz8 : w6.heap.size + 1 ≤ w8.heap.size := by have := HS6.out; have := hk8.size; omega
      have hg8 : GramAt w8 w6.heap.size ⟨1, [120], a⟩ := CellsAt.kept HG.out hk8 (by have := HS6.out; omega) (by have := HM6.out; omega)
      have HB8 := Lib.hid (HB7.out.trans (hk8.below (fun i hi => by have := HLO.out; show w.heap.size ≤ i; omega) HB7.out.size))
      have hal : Below w8.heap.size w8 (w8.alloc (.cells #[.int .u64 2, .string ⟨#[120]⟩, .string (B b)] 32)) := (Below.refl _ _).alloc (Nat.le_refl _) _
      have hg9 := CellsAt.below hg8 hal (by omega)
      have g2 : (w8.alloc (.cells #[.int .u64 2, .string ⟨#[120]⟩, .string (B b)] 32)).cell? ⟨w6.heap.size, 2, none⟩ = some (.string (B a)) := (hg9 2 (by omega)).1
      have HB9 := Lib.hid (HB8.out.alloc HB8.out.size (.cells #[.int .u64 2, .string ⟨#[120]⟩, .string (B b)] 32))
      clear hn8 hk8 hg8 hg9 hal HB7 HB8 HG HT4 hsz8
      go_wp2_with fail
      with_reducible refine (HW.out _).mono ?_
      rintro e w9 ⟨rfl, hb9⟩
      have HBF := Lib.hid (HB9.out.trans (hb9.mono HB9.out.size))
      clear hb9
      go_wp2
      go_ret
      exact ⟨rfl, HBF.out⟩
end Go.Proofs.Ytplfnjpoikhmbaa.Nt
