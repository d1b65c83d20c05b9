/-
  The net (layer 30): the document's example, works. No condition.
-/
import Derived.Test.YtplfnjpoikhmbaaNtAll
open Go Go.RowKit
namespace Go.Proofs.Ytplfnjpoikhmbaa.Nt
open Base Mp

theorem own_slice {w : World} {base size n : Nat} {e : TypeId} {v : Value} {xs : List Value} (h : w.ownsRow base e size v n xs) : ∃ p cap, v = .slice p n cap := by
  obtain ⟨-, ⟨rfl, rfl⟩ | ⟨g, cap, cur, rfl, -⟩⟩ := h
  · exact ⟨none, 0, rfl⟩
  · exact ⟨_, cap, rfl⟩
def k30 : NetD := ⟨[⟨1, [97], [120]⟩, ⟨2, [97], [121]⟩], 2, 0⟩
def k31 : NetD := ⟨[⟨2, [97], [121]⟩], 2, 0⟩
set_option maxRecDepth 100000 in
set_option maxHeartbeats 4000000 in
theorem Works_f (w : World) : Calls Try.prog 8 #[] w fun e w' => e = .returned (.bool true) ∧ Below w.heap.size w w' := by
  have HN := Lib.hid (New_f w)
  go_enter Try.func8, Try.ntmps8
  go_wp2_with fail
  with_reducible refine HN.out.mono ?_
  rintro e w1 ⟨b, bm, rfl, hn1, hb1, hlb, hlm⟩
  have hr : Below w1.heap.size w1 (w1.alloc (.cells #[.string ⟨#[120]⟩, .string ⟨#[121]⟩] 9)) := (Below.refl _ _).alloc (Nat.le_refl _) _
  have hc := cells_made w1 #[.string ⟨#[120]⟩, .string ⟨#[121]⟩] 9
  have HS : Hid (Calls Try.prog 10 #[.pointer (some ⟨b, 0, none⟩), .string ⟨#[97]⟩, .slice (some ⟨w1.heap.size, 0, none⟩) 2 2] (w1.alloc (.cells #[.string ⟨#[120]⟩, .string ⟨#[121]⟩] 9)) fun e w' => e = .returned (.int .i64 2) ∧ NetAt w' b bm k30 ∧ Kept (fun i => i = b ∨ i = bm) (w1.alloc (.cells #[.string ⟨#[120]⟩, .string ⟨#[121]⟩] 9)) w') :=
    Send_f (hn1.next hr) [97] [[120], [121]] w1.heap.size 2 (fun j hj => by
      have hj2 : j < 2 := hj
      have := (hc j hj2).1
      rw [this]
      have : j = 0 ∨ j = 1 := by omega
      rcases this with rfl | rfl <;> rfl) (by have := hn1.lt; omega) (by have := hn1.map.lt; omega) (by show 0 + 2 < _; omega) (by show 0 + 2 < _; omega)
  have HB1 := Lib.hid (hb1.alloc (hb1.size) (.cells #[.string ⟨#[120]⟩, .string ⟨#[121]⟩] 9))
  have HL := Lib.hid (And.intro hlb hlm)
  clear hn1 hb1 hlb hlm hr hc
  unfold ptr
  go_wp2_with fail
  with_reducible refine HS.out.mono ?_
  rintro e w2 ⟨rfl, hn2, hk2⟩
  have HT1 : Hid (Calls Try.prog 13 #[.pointer (some ⟨b, 0, none⟩), .int .u64 1] w2 fun e w' => e = .returned (.tuple #[.agg #[.int .u64 1, .string ⟨#[97]⟩, .string ⟨#[120]⟩], .int .i64 0]) ∧ NetAt w' b bm k31 ∧ Kept (fun i => i = bm) w2 w') := Take_f hn2 1 (by omega)
  have HB2 := Lib.hid (HB1.out.trans (hk2.below (fun i hi => by have := HL.out; show w.heap.size ≤ i; rcases hi with rfl | rfl <;> omega) HB1.out.size))
  clear hn2 hk2 HB1 HS HN
  go_wp2_with fail
  with_reducible refine HT1.out.mono ?_
  rintro e w3 ⟨rfl, hn3, hk3⟩
  have HB3 := Lib.hid (HB2.out.trans (hk3.below (fun i hi => by have := HL.out; show w.heap.size ≤ i; omega) HB2.out.size))
  have hal : Below w3.heap.size w3 (w3.alloc (.cells #[.int .u64 1, .string ⟨#[97]⟩, .string ⟨#[120]⟩] 32)) := (Below.refl _ _).alloc (Nat.le_refl _) _
  have HG := Lib.hid (show GramAt (w3.alloc (.cells #[.int .u64 1, .string ⟨#[97]⟩, .string ⟨#[120]⟩] 32)) w3.heap.size ⟨1, [97], [120]⟩ from gram_made w3 ⟨1, [97], [120]⟩)
  have HT2 : Hid (Calls Try.prog 13 #[.pointer (some ⟨b, 0, none⟩), .int .u64 1] (w3.alloc (.cells #[.int .u64 1, .string ⟨#[97]⟩, .string ⟨#[120]⟩] 32)) fun e w' => e = .returned (.tuple #[.agg #[.int .u64 0, .string ⟨#[]⟩, .string ⟨#[]⟩], .int .i64 5]) ∧ NetAt w' b bm k31 ∧ Kept (fun i => i = bm) (w3.alloc (.cells #[.int .u64 1, .string ⟨#[97]⟩, .string ⟨#[120]⟩] 32)) w') := Take_f (hn3.next hal) 1 (by omega)
  have HB4 := Lib.hid (HB3.out.alloc HB3.out.size (.cells #[.int .u64 1, .string ⟨#[97]⟩, .string ⟨#[120]⟩] 32))
  have HM3 := Lib.hid hn3.map.lt
  have HS3 := Lib.hid (alloc_more w3 (.cells #[.int .u64 1, .string ⟨#[97]⟩, .string ⟨#[120]⟩] 32))
  clear hn3 hk3 HB2 HB3 HT1 hal
  go_wp2_with fail
  with_reducible refine HT2.out.mono ?_
  rintro e w5 ⟨rfl, hn5, hk5⟩
  have hsz5 : w3.heap.size + 1 ≤ w5.heap.size := by have := HS3.out; have := hk5.size; omega
  have hg5 : GramAt w5 w3.heap.size ⟨1, [97], [120]⟩ := CellsAt.kept HG.out hk5 (by have := HS3.out; omega) (by have := HM3.out; omega)
  have HB5 := Lib.hid (HB4.out.trans (hk5.below (fun i hi => by have := HL.out; show w.heap.size ≤ i; omega) HB4.out.size))
  have hal : Below w5.heap.size w5 (w5.alloc (.cells #[.int .u64 0, .string ⟨#[]⟩, .string ⟨#[]⟩] 32)) := (Below.refl _ _).alloc (Nat.le_refl _) _
  have hg6 := CellsAt.below hg5 hal (by omega)
  have g0 : (w5.alloc (.cells #[.int .u64 0, .string ⟨#[]⟩, .string ⟨#[]⟩] 32)).cell? ⟨w3.heap.size, 0, none⟩ = some (.int .u64 1) := (hg6 0 (by omega)).1
  have g1 : (w5.alloc (.cells #[.int .u64 0, .string ⟨#[]⟩, .string ⟨#[]⟩] 32)).cell? ⟨w3.heap.size, 1, none⟩ = some (.string ⟨#[97]⟩) := (hg6 1 (by omega)).1
  have g2 : (w5.alloc (.cells #[.int .u64 0, .string ⟨#[]⟩, .string ⟨#[]⟩] 32)).cell? ⟨w3.heap.size, 2, none⟩ = some (.string ⟨#[120]⟩) := (hg6 2 (by omega)).1
  have HA := Lib.hid (All_f (hn5.next hal) (by show 2 < _; omega))
  have HB6 := Lib.hid (HB5.out.alloc HB5.out.size (.cells #[.int .u64 0, .string ⟨#[]⟩, .string ⟨#[]⟩] 32))
  clear hn5 hk5 hg5 hg6 hal HB4 HB5 HG HT2 hsz5
  unfold ptr at HA
  go_wp2_with fail
  with_reducible refine HA.out.mono ?_
  rintro e w7 ⟨v, rfl, hr7, hb7⟩
  have HB7 := Lib.hid (HB6.out.trans (hb7.mono HB6.out.size))
  obtain ⟨p, cap, rfl⟩ : ∃ p cap, v = .slice p 1 cap := own_slice hr7
  clear hr7 hb7 HB6 HA
  go_wp2
  go_ret
  exact ⟨rfl, HB7.out⟩
end Go.Proofs.Ytplfnjpoikhmbaa.Nt
