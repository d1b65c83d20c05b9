/-
  The walk of layer 28's known case ('works').
-/
import Derived.Test.YtejheedekiojnaaSessHeld
open Go Go.RowKit
namespace Go.Proofs.Ytejheedekiojnaa.Sess
open Base Mp

/-- A session all of whose blocks are from m on. -/
def Solo (w : World) (m : Nat) (S : St) : Prop := SessAt w m S (fun i => m ≤ i ∧ i < w.heap.size)
theorem Solo.later {w w' : World} {m : Nat} {S : St} (h : Solo w m S) (hb : Below w.heap.size w w') : Solo w' m S := by
  obtain ⟨blk, hs⟩ := h
  exact ⟨blk, (hs.later hb).next (Kept.refl _ _) (fun i hi => ⟨hi.1, Nat.lt_of_lt_of_le hi.2 hb.size⟩) (fun i hi => hi.2)⟩
theorem Solo.lt {w : World} {m : Nat} {S : St} (h : Solo w m S) : m < w.heap.size := by
  obtain ⟨blk, hs⟩ := h
  exact hs.old _ hs.mine0
theorem New_solo (w : World) : Calls Try.prog 10 #[] w fun e w' => e = .returned (ptr (w.heap.size + 1)) ∧ Solo w' w.heap.size [] ∧ Below w.heap.size w w' := New_calls w
theorem Put_solo (w : World) (m : Nat) (S : St) (f : List UInt8) (p : PartD) (h : Solo w m S) (hf : f.length ≤ maxLen)
    (hp : -9223372036854775808 ≤ p.i ∧ p.i ≤ 9223372036854775807) (hn : -9223372036854775808 ≤ p.n ∧ p.n ≤ 9223372036854775807) (ht : p.text.length ≤ maxLen) :
    Calls Try.prog 11 #[ptr (m + 1), .string (B f), partV p] w fun e w' => e = .returned (putV (sput S f p)) ∧ Solo w' m (sput S f p).1 ∧ Below m w w' := by
  refine (Put_calls w m S _ f p h hf hp hn ht).mono ?_
  rintro e w' ⟨he, ⟨⟨blk, hs⟩, hk⟩⟩
  have hm : m ≤ w.heap.size := Nat.le_of_lt h.lt
  refine ⟨he, ⟨blk, hs.next (Kept.refl _ _) (fun i hi => hi.elim (fun h => ⟨h.1, Nat.lt_of_lt_of_le h.2 hk.size⟩) (fun h => ⟨Nat.le_trans hm h.1, h.2⟩)) (fun i hi => hi.2)⟩, hk.below (fun i hi => hi.1) hm⟩
theorem Held_solo (w : World) (m : Nat) (S : St) (h : Solo w m S) : Calls Try.prog 13 #[ptr (m + 1)] w fun e w' => e = .returned (.int .i64 (heldS S : Nat)) ∧ Solo w' m S ∧ Below w.heap.size w w' :=
  (Held_calls w m S _ h).mono fun _ _ ⟨he, hb⟩ => ⟨he, h.later hb, hb⟩
theorem Len_solo (w : World) (m : Nat) (S : St) (h : Solo w m S) : Calls Try.prog 12 #[ptr (m + 1)] w fun e w' => e = .returned (.int .i64 (S.length : Nat)) ∧ w = w' := Len_calls w m S _ h

def abcde : List UInt8 := [97, 98, 99, 100, 101]
def P0 : PartD := ⟨1, 0, 3, [97, 98]⟩
def P1 : PartD := ⟨1, 1, 3, [99, 100]⟩
def P2 : PartD := ⟨1, 2, 3, [101]⟩
theorem cut_abcde : cutT abcde 1 2 = [P0, P1, P2] := rfl
def S1 : St := [(keyS [97], ⟨1, [none, none, some [101]]⟩)]
def S2 : St := [(keyS [97], ⟨1, [some [97, 98], none, some [101]]⟩)]
theorem put1 : sput [] [97] P2 = (S1, [], false, 0) := rfl
theorem put2 : sput S1 [97] P0 = (S2, [], false, 0) := rfl
theorem put3 : sput S2 [97] P1 = ([], [97, 98, 99, 100, 101], true, 0) := rfl
/-- The three parts in memory. -/
structure Three (w : World) (b : Nat) : Prop where
  c0 : w.cell? ⟨b, 0, none⟩ = some (.int .u64 1)
  c1 : w.cell? ⟨b, 1, none⟩ = some (.int .i64 0)
  c2 : w.cell? ⟨b, 2, none⟩ = some (.int .i64 3)
  c3 : w.cell? ⟨b, 3, none⟩ = some (.string ⟨#[97, 98]⟩)
  c4 : w.cell? ⟨b, 4, none⟩ = some (.int .u64 1)
  c5 : w.cell? ⟨b, 5, none⟩ = some (.int .i64 1)
  c6 : w.cell? ⟨b, 6, none⟩ = some (.int .i64 3)
  c7 : w.cell? ⟨b, 7, none⟩ = some (.string ⟨#[99, 100]⟩)
  c8 : w.cell? ⟨b, 8, none⟩ = some (.int .u64 1)
  c9 : w.cell? ⟨b, 9, none⟩ = some (.int .i64 2)
  c10 : w.cell? ⟨b, 10, none⟩ = some (.int .i64 3)
  c11 : w.cell? ⟨b, 11, none⟩ = some (.string ⟨#[101]⟩)
theorem three_of {w : World} {b : Nat} (h : PartsAt w b [P0, P1, P2]) : Three w b :=
  ⟨(h 0 (by decide)).1, (h 1 (by decide)).1, (h 2 (by decide)).1, (h 3 (by decide)).1, (h 4 (by decide)).1, (h 5 (by decide)).1, (h 6 (by decide)).1, (h 7 (by decide)).1,
    (h 8 (by decide)).1, (h 9 (by decide)).1, (h 10 (by decide)).1, (h 11 (by decide)).1⟩

set_option maxHeartbeats 1000000 in
theorem works_calls (w : World) : Calls Try.prog 8 #[] w fun e w' => e = .returned (.bool true) ∧ Below w.heap.size w w' := by
  have hcut : Calls Try.prog 9 #[.string ⟨#[97, 98, 99, 100, 101]⟩, .int .u64 1, .int .i64 2] w fun e w' => ∃ b, e = .returned (.tuple #[.slice (some ⟨b, 0, none⟩) 3 3, .int .i64 0]) ∧
      w.heap.size ≤ b ∧ b < w'.heap.size ∧ PartsAt w' b [P0, P1, P2] ∧ Below w.heap.size w w' := Cut_calls abcde 1 2 w (by omega) (by omega) (by decide)
  go_enter Try.func8, Try.ntmps8
  go_wp2_with fail
  refine hcut.mono ?_
  rintro e w1 ⟨b, rfl, hb1, hb2, hp, hbe⟩
  have HB := Lib.hid hbe
  have HP := Lib.hid hp
  obtain ⟨c0, c1, c2, c3, c4, c5, c6, c7, c8, c9, c10, c11⟩ := three_of hp
  clear hcut hp hbe
  go_wp2_with fail
  refine (New_solo w1).mono ?_
  rintro e w2 ⟨rfl, hs2, hbe⟩
  have hp2 : PartsAt w2 b [P0, P1, P2] := CellsAt.below HP.out hbe hb2
  have HB2 := Lib.hid (later HB.out hbe)
  have HP2 := Lib.hid hp2
  have hwb : w.heap.size ≤ w1.heap.size := by omega
  clear hbe c0 c1 c2 c3 c4 c5 c6 c7 c8 c9 c10 c11 HB HP
  obtain ⟨c0, c1, c2, c3, c4, c5, c6, c7, c8, c9, c10, c11⟩ := three_of hp2
  clear hp2
  generalize w1.heap.size = m at *
  have hput : ∀ (w : World) (S : St), Solo w m S → _ := fun w S h => Put_solo w m S [97] P2 h (by unfold maxLen; decide) (by decide) (by decide) (by unfold maxLen; decide)
  have h1 : Calls Try.prog 11 #[.pointer (some ⟨m + 1, 0, none⟩), .string ⟨#[97]⟩, .agg #[.int .u64 1, .int .i64 2, .int .i64 3, .string ⟨#[101]⟩]] w2 fun e w' => e = .returned (putV (sput [] [97] P2)) ∧ Solo w' m (sput [] [97] P2).1 ∧ Below m w2 w' := hput w2 [] hs2
  rw [put1] at h1
  have H1 := Lib.hid h1
  clear h1 hput hs2
  unfold ptr
  go_wp2_with fail
  refine H1.out.mono ?_
  clear H1
  rintro e w3 ⟨rfl, hs3, hbe⟩
  have hp3 : PartsAt w3 b [P0, P1, P2] := CellsAt.below HP2.out hbe hb2
  have HB3 := Lib.hid (HB2.out.trans (hbe.mono hwb))
  have HP3 := Lib.hid hp3
  clear hbe c0 c1 c2 c3 c4 c5 c6 c7 c8 c9 c10 c11 HB2 HP2
  obtain ⟨c0, c1, c2, c3, c4, c5, c6, c7, c8, c9, c10, c11⟩ := three_of hp3
  clear hp3
  have hput : ∀ (w : World) (S : St), Solo w m S → _ := fun w S h => Put_solo w m S [97] P0 h (by unfold maxLen; decide) (by decide) (by decide) (by unfold maxLen; decide)
  have h1 : Calls Try.prog 11 #[.pointer (some ⟨m + 1, 0, none⟩), .string ⟨#[97]⟩, .agg #[.int .u64 1, .int .i64 0, .int .i64 3, .string ⟨#[97, 98]⟩]] w3 fun e w' => e = .returned (putV (sput S1 [97] P0)) ∧ Solo w' m (sput S1 [97] P0).1 ∧ Below m w3 w' := hput w3 S1 hs3
  rw [put2] at h1
  have H1 := Lib.hid h1
  clear h1 hput hs3
  go_wp2_with fail
  refine H1.out.mono ?_
  clear H1
  rintro e w4 ⟨rfl, hs4, hbe⟩
  have hp4 : PartsAt w4 b [P0, P1, P2] := CellsAt.below HP3.out hbe hb2
  have HB4 := Lib.hid (HB3.out.trans (hbe.mono hwb))
  have HP4 := Lib.hid hp4
  clear hbe c0 c1 c2 c3 c4 c5 c6 c7 c8 c9 c10 c11 HB3 HP3 hp4
  have h1 := Held_solo w4 m S2 hs4
  rw [show heldS S2 = 3 from rfl] at h1
  have H1 := Lib.hid h1
  clear h1
  have hb3 : b < w4.heap.size := Nat.lt_trans hb2 hs4.lt
  clear hs4
  unfold ptr at H1
  go_wp2_with fail
  refine H1.out.mono ?_
  clear H1
  rintro e w5 ⟨rfl, hs5, hbe⟩
  have hp5 : PartsAt w5 b [P0, P1, P2] := CellsAt.below HP4.out hbe hb3
  have HB5 := Lib.hid (later HB4.out hbe)
  obtain ⟨c0, c1, c2, c3, c4, c5, c6, c7, c8, c9, c10, c11⟩ := three_of hp5
  clear hbe HB4 HP4 hp5
  have hput : ∀ (w : World) (S : St), Solo w m S → _ := fun w S h => Put_solo w m S [97] P1 h (by unfold maxLen; decide) (by decide) (by decide) (by unfold maxLen; decide)
  have h1 : Calls Try.prog 11 #[.pointer (some ⟨m + 1, 0, none⟩), .string ⟨#[97]⟩, .agg #[.int .u64 1, .int .i64 1, .int .i64 3, .string ⟨#[99, 100]⟩]] w5 fun e w' => e = .returned (putV (sput S2 [97] P1)) ∧ Solo w' m (sput S2 [97] P1).1 ∧ Below m w5 w' := hput w5 S2 hs5
  rw [put3] at h1
  have H1 := Lib.hid h1
  clear h1 hput hs5
  go_wp2_with fail
  refine H1.out.mono ?_
  clear H1
  rintro e w6 ⟨rfl, hs6, hbe⟩
  have HB6 := Lib.hid (HB5.out.trans (hbe.mono hwb))
  have H1 := Lib.hid (Len_solo w6 m [] hs6)
  clear hbe HB5 hs6
  unfold ptr at H1
  unfold putV
  go_wp2_with fail
  refine H1.out.mono ?_
  clear H1
  rintro e w7 ⟨rfl, rfl⟩
  go_wp2
  go_ret
  exact ⟨rfl, HB6.out⟩
end Go.Proofs.Ytejheedekiojnaa.Sess
