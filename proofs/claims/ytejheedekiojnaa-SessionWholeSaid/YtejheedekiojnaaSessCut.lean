/-
  The walk of Cut (layer 28): the parts of a text.
-/
import Derived.Test.YtejheedekiojnaaChecked
import Derived.Test.YtejheedekiojnaaSessMath
import Derived.WalkSpells
import Derived.Outline
open Go Go.RowKit
namespace Go.Proofs.Ytejheedekiojnaa.Sess
open Base

def cellP (p : PartD) : Nat → Value
  | 0 => .int .u64 (p.id : Int)
  | 1 => .int .i64 p.i
  | 2 => .int .i64 p.n
  | _ => .string (B p.text)
def noPart : PartD := ⟨0, 0, 0, []⟩
def partV (p : PartD) : Value := .agg #[.int .u64 (p.id : Int), .int .i64 p.i, .int .i64 p.n, .string (B p.text)]
/-- Parts in memory, four cells each. -/
def PartsAt (w : World) (b : Nat) (l : List PartD) : Prop := CellsAt w b (l.length * 4) fun j => cellP (l[j / 4]?.getD noPart) (j % 4)

theorem infoPart : (Try.prog.info? 32).map (fun i => (i.zero, i.size, i.bytes)) = some (some (.agg #[.int .u64 0, .int .i64 0, .int .i64 0, .string ⟨#[]⟩]), 4, 40) := by kernel_rfl

theorem zeroPart (j : Nat) : (Value.agg #[.int .u64 0, .int .i64 0, .int .i64 0, .string ⟨#[]⟩]).cells[j % (Value.agg #[.int .u64 0, .int .i64 0, .int .i64 0, .string ⟨#[]⟩]).cells.size]! = cellP noPart (j % 4) := by
  have hs : (Value.agg #[.int .u64 0, .int .i64 0, .int .i64 0, .string ⟨#[]⟩]).cells.size = 4 := rfl
  rw [hs]
  have : j % 4 < 4 := Nat.mod_lt _ (by omega)
  generalize j % 4 = r at *
  match r, this with
  | 0, _ => rfl
  | 1, _ => rfl
  | 2, _ => rfl
  | 3, _ => rfl
/-- The parts as far as they are cut. -/
def CutAt (w : World) (b N : Nat) (t : List UInt8) (id size k : Nat) : Prop := CellsAt w b (N * 4) fun j => cellP (if j / 4 < k then partOf t id size N (j / 4) else noPart) (j % 4)
theorem CutAt.start {w : World} {b N : Nat} {t : List UInt8} {id size : Nat} (h : CellsAt w b (N * 4) fun j => (Value.agg #[.int .u64 0, .int .i64 0, .int .i64 0, .string ⟨#[]⟩]).cells[j % (Value.agg #[.int .u64 0, .int .i64 0, .int .i64 0, .string ⟨#[]⟩]).cells.size]!) : CutAt w b N t id size 0 :=
  h.congr fun j _ => by rw [zeroPart]; simp
theorem CutAt.done {w : World} {b : Nat} {t : List UInt8} {id size : Nat} (h : CutAt w b (cutN t.length size) t id size (cutN t.length size)) : PartsAt w b (cutT t id size) := by
  have hl : (cutT t id size).length = cutN t.length size := by simp [cutT]
  unfold PartsAt
  rw [hl]
  refine CellsAt.congr h fun j hj => ?_
  have hj4 : j / 4 < cutN t.length size := by omega
  rw [if_pos hj4]
  simp [cutT, hj4]

theorem size_more (w : World) (o : Obj) : w.heap.size < (w.alloc o).heap.size := by show _ < (w.heap.push _).size; rw [Array.size_push]; omega
theorem below_four {K b : Nat} {a w : World} (h : Below K a w) (hb : K ≤ b) (i j k l : Nat) (x y z u : Value) : Below K a ((((w.setCell ⟨b, i, none⟩ x).setCell ⟨b, j, none⟩ y).setCell ⟨b, k, none⟩ z).setCell ⟨b, l, none⟩ u) :=
  (((h.setCell hb x).setCell hb y).setCell hb z).setCell hb u
theorem CutAt.more {w : World} {b N : Nat} {t : List UInt8} {id size k : Nat} (h : CutAt w b N t id size k) (hk : k < N) {v u : Value} (hv : v = .string (B (piece t size k))) (hu : u = .int .i64 (N : Int)) :
    CutAt ((((w.setCell ⟨b, k * 4, none⟩ (.int .u64 (id : Int))).setCell ⟨b, k * 4 + 1, none⟩ (.int .i64 (k : Int))).setCell ⟨b, k * 4 + 2, none⟩ u).setCell ⟨b, k * 4 + 3, none⟩ v) b N t id size (k + 1) := by
  subst hv hu
  unfold CutAt at *
  refine CellsAt.congr (CellsAt.set (CellsAt.set (CellsAt.set (CellsAt.set h (i := k * 4) (by omega) _) (i := k * 4 + 1) (by omega) _) (i := k * 4 + 2) (by omega) _) (i := k * 4 + 3) (by omega) _) fun j hj => ?_
  by_cases e3 : j = k * 4 + 3
  · subst e3
    rw [if_pos rfl, show (k * 4 + 3) / 4 = k by omega, show (k * 4 + 3) % 4 = 3 by omega, if_pos (by omega)]; rfl
  by_cases e2 : j = k * 4 + 2
  · subst e2
    rw [if_neg e3, if_pos rfl, show (k * 4 + 2) / 4 = k by omega, show (k * 4 + 2) % 4 = 2 by omega, if_pos (by omega)]; rfl
  by_cases e1 : j = k * 4 + 1
  · subst e1
    rw [if_neg e3, if_neg e2, if_pos rfl, show (k * 4 + 1) / 4 = k by omega, show (k * 4 + 1) % 4 = 1 by omega, if_pos (by omega)]; rfl
  by_cases e0 : j = k * 4
  · subst e0
    rw [if_neg e3, if_neg e2, if_neg e1, if_pos rfl, show (k * 4) / 4 = k by omega, show (k * 4) % 4 = 0 by omega, if_pos (by omega)]; rfl
  rw [if_neg e3, if_neg e2, if_neg e1, if_neg e0]
  by_cases hl : j / 4 < k
  · rw [if_pos hl, if_pos (by omega)]
  · rw [if_neg hl, if_neg (by omega)]

theorem piece_cut (t : List UInt8) (size k : Nat) : Value.string (B (List.drop (k * size) (List.take (if ((k : Int) + 1) * (size : Int) < (t.length : Int) then ((k : Int) + 1) * (size : Int) else (t.length : Int)).toNat t))) = .string (B (piece t size k)) := by
  unfold piece
  rw [show ((k : Int) + 1) * (size : Int) = (((k + 1) * size : Nat) : Int) by rw [Int.natCast_mul]; rfl]
  split
  · rfl
  · rw [Int.toNat_natCast, List.take_of_length_le (Nat.le_refl _), List.take_of_length_le (by omega)]
set_option maxHeartbeats 1000000 in
theorem Cut_calls (t : List UInt8) (id size : Nat) (w : World) (hs0 : 1 ≤ size) (hs1 : size ≤ 4096) (ht : t.length ≤ size * 256) :
    Calls Try.prog 9 #[.string (B t), .int .u64 (id : Int), .int .i64 (size : Int)] w fun e w' => ∃ b, e = .returned (.tuple #[.slice (some ⟨b, 0, none⟩) (cutT t id size).length (cutT t id size).length, .int .i64 0]) ∧
      w.heap.size ≤ b ∧ b < w'.heap.size ∧ PartsAt w' b (cutT t id size) ∧ Below w.heap.size w w' := by
  obtain ⟨i0, hi, hz0, hz1, hz2⟩ := info_parts infoPart
  have hn1 := cutN_pos t.length size
  have hn2 : cutN t.length size ≤ 256 := by
    rcases Nat.lt_or_ge 256 (cutN t.length size) with h | h
    · have := (cutN_long t.length size 256 hs0 (by omega)).1 h
      rw [Nat.mul_comm] at this
      omega
    · exact h
  have hl : t.length ≤ 1048576 := by
    have := Nat.mul_le_mul_right 256 hs1
    omega
  have hN : (if (1 : Int) < ((t.length : Int) + (size : Int) - 1) / (size : Int) then ((t.length : Int) + (size : Int) - 1) / (size : Int) else 1) = ((cutN t.length size : Nat) : Int) := by
    have hq : ((t.length : Int) + (size : Int) - 1) / (size : Int) = (((t.length + size - 1) / size : Nat) : Int) := by
      rw [show (t.length : Int) + (size : Int) - 1 = ((t.length + size - 1 : Nat) : Int) by omega, ← Int.natCast_ediv]
    rw [hq]
    unfold cutN
    split <;> omega
  have hd : decide ((256 : Int) < if (1 : Int) < ((t.length : Int) + (size : Int) - 1) / (size : Int) then ((t.length : Int) + (size : Int) - 1) / (size : Int) else 1) = false := by
    rw [hN]; simp; omega
  have hz : decide ((size : Int) = 0) = false := by simp; omega
  have HN := Lib.hid hN
  clear hN
  have hmake : ∀ m : Nat, m ≤ 256 → _ := fun m hm => make_laid (P := Try.prog) w 26 32 i0 _ 4 40 m (by kernel_rfl) hi hz0 hz1 hz2 (by omega) (by omega)
  go_enter Try.func9, Try.ntmps9
  go_wp2_with fail
  all_goals have hm := hmake (cutN t.length size) hn2
  all_goals have hcut := CutAt.start (t := t) (id := id) (size := size) hm.2
  all_goals have hbel : Below w.heap.size w (w.alloc (.cells (madeCells (Value.agg #[.int .u64 0, .int .i64 0, .int .i64 0, .string ⟨#[]⟩]).cells (cutN t.length size * 4)) 32)) := (Below.refl _ _).alloc (Nat.le_refl _) _
  all_goals have hsz : w.heap.size < (w.alloc (.cells (madeCells (Value.agg #[.int .u64 0, .int .i64 0, .int .i64 0, .string ⟨#[]⟩]).cells (cutN t.length size * 4)) 32)).heap.size := size_more _ _
  all_goals have HC := Lib.hid hcut
  all_goals have HB := Lib.hid hbel
  all_goals have hq := HN.out
  all_goals first | (rw [if_pos (by assumption)] at hq; rw [hq, hm.1]) | (rw [if_neg (by omega)] at hq; rw [← hq] at hm; rw [hm.1])
  all_goals have HQ := Lib.hid hq
  all_goals clear hmake hm hcut hbel hq
  all_goals generalize (w.alloc (.cells (madeCells (Value.agg #[.int .u64 0, .int .i64 0, .int .i64 0, .string ⟨#[]⟩]).cells (cutN t.length size * 4)) 32)) = w1 at *
  all_goals generalize hNN : cutN t.length size = N at *
  all_goals go_wp2
  all_goals
    go_loopw [32] (fun i wr => ∃ k : Nat, k ≤ N ∧ i = .int .i64 k ∧ CutAt wr w.heap.size N t id size k ∧ Below w.heap.size w wr) (fun i _ => N - (intOf i).toNat)
    case atStart => exact ⟨0, Nat.zero_le _, rfl, HC.out, HB.out⟩
    case round =>
      obtain ⟨k, hk, rfl, hcut, hbel⟩ := hrel
      have HC2 := Lib.hid hcut
      have HB2 := Lib.hid hbel
      clear hcut hbel
      by_cases hlt : k < N
      · have m1 : (k + 1) * size ≤ 1048576 := Nat.le_trans (Nat.mul_le_mul (by omega : k + 1 ≤ 256) hs1) (by decide)
        have m2 : ((k : Int) + 1) * (size : Int) ≤ 1048576 := by rw [show ((k : Int) + 1) = ((k + 1 : Nat) : Int) from rfl, ← Int.natCast_mul]; omega
        have m3 : (0 : Int) ≤ ((k : Int) + 1) * (size : Int) := by exact_mod_cast Nat.zero_le _
        have m4 : (k : Int) * (size : Int) + (size : Int) = ((k : Int) + 1) * (size : Int) := by rw [Int.add_mul, Int.one_mul]
        have m5 : (0 : Int) ≤ (k : Int) * (size : Int) := by exact_mod_cast Nat.zero_le _
        have m6 : (k : Int) * (size : Int) ≤ t.length := by
          rcases Nat.eq_zero_or_pos k with h0 | h0
          · subst h0; simp
          · have := cutN_before t.length size (k - 1) hs0 (by omega)
            rw [show k - 1 + 1 = k by omega] at this
            exact_mod_cast Nat.le_of_lt this
        obtain ⟨c0, f0⟩ := HC2.out (k * 4) (by omega)
        obtain ⟨c1, f1⟩ := HC2.out (k * 4 + 1) (by omega)
        obtain ⟨c2, f2⟩ := HC2.out (k * 4 + 2) (by omega)
        obtain ⟨c3, f3⟩ := HC2.out (k * 4 + 3) (by omega)
        have HX := Lib.hid (fun v u => HC2.out.more hlt (v := v) (u := u))
        have HB3 := Lib.hid (below_four HB2.out (b := w.heap.size) (Nat.le_refl _) (k * 4) (k * 4 + 1) (k * 4 + 2) (k * 4 + 3))
        go_wp2
        all_goals
          go_roundw
          case rel =>
            refine ⟨k + 1, by omega, by go_num, HX.out _ _ (piece_cut t size k) ?_, HB3.out _ _ _ _⟩
            first | rfl | rw [HQ.out]
          case measure => simp [intOf]; omega
      · go_wp2
        go_ret2
        have hkN : k = N := by omega
        subst hkN
        subst hNN
        have h1 := HC2.out
        have hlen : (cutT t id size).length = cutN t.length size := by simp [cutT]
        refine ⟨w.heap.size, by rw [hlen]; rfl, Nat.le_refl _, ?_, h1.done, HB2.out⟩
        exact lt_of_cell (h1 0 (by omega)).1
theorem Cut_bad (t : List UInt8) (id : Nat) (z : Int) (w : World) (hz : z < 1 ∨ 4096 < z) :
    Calls Try.prog 9 #[.string (B t), .int .u64 (id : Int), .int .i64 z] w fun e w' => e = .returned (.tuple #[.slice none 0 0, .int .i64 2]) ∧ w = w' := by
  by_cases h : z < 1
  · have h1 : decide (z < 1) = true := by simp [h]
    go_enter Try.func9, Try.ntmps9
    go_wp2
    go_ret2
    exact ⟨rfl, rfl⟩
  · have h1 : decide (z < 1) = false := by simp [h]
    have h2 : decide (4096 < z) = true := by simp; omega
    go_enter Try.func9, Try.ntmps9
    go_wp2
    go_ret2
    exact ⟨rfl, rfl⟩
theorem Cut_long (t : List UInt8) (id size : Nat) (w : World) (hs0 : 1 ≤ size) (hs1 : size ≤ 4096) (ht : size * 256 < t.length) (hm : t.length ≤ 1048576) :
    Calls Try.prog 9 #[.string (B t), .int .u64 (id : Int), .int .i64 (size : Int)] w fun e w' => e = .returned (.tuple #[.slice none 0 0, .int .i64 4]) ∧ w = w' := by
  have hn2 : 256 < cutN t.length size := (cutN_long t.length size 256 hs0 (by omega)).2 (by omega)
  have hq : ((t.length : Int) + (size : Int) - 1) / (size : Int) = (((t.length + size - 1) / size : Nat) : Int) := by
    rw [show (t.length : Int) + (size : Int) - 1 = ((t.length + size - 1 : Nat) : Int) by omega, ← Int.natCast_ediv]
  have h1 : decide ((1 : Int) < ((t.length : Int) + (size : Int) - 1) / (size : Int)) = true := by
    rw [hq]; simp; unfold cutN at hn2; omega
  have h2 : decide ((256 : Int) < ((t.length : Int) + (size : Int) - 1) / (size : Int)) = true := by
    rw [hq]; simp; unfold cutN at hn2; omega
  have h3 : decide ((256 : Int) < if (1 : Int) < ((t.length : Int) + (size : Int) - 1) / (size : Int) then ((t.length : Int) + (size : Int) - 1) / (size : Int) else 1) = true := by
    rw [if_pos (of_decide_eq_true h1)]; exact h2
  have hz : decide ((size : Int) = 0) = false := by simp; omega
  have h4 := of_decide_eq_true h1
  clear hn2 hq
  go_enter Try.func9, Try.ntmps9
  go_wp2
  go_ret2
  exact ⟨rfl, rfl⟩
end Go.Proofs.Ytejheedekiojnaa.Sess
