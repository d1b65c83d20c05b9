/-
  The net (layer 30) in memory: its struct, its map; the small walks: New, there, full, put, Lost. No condition.
-/
import Derived.Test.YtplfnjpoikhmbaaChecked
import Derived.Test.YtplfnjpoikhmbaaNtMath
import Derived.Test.YtplfnjpoikhmbaaKept
import Derived.WalkKit
import Derived.WalkSpells
import Derived.Outline
open Go Go.RowKit
namespace Go.Proofs.Ytplfnjpoikhmbaa.Nt
open Base Mp

def netCell (bm : Nat) (N : NetD) : Nat → Value
  | 0 => .map (some bm)
  | 1 => .int .u64 (N.last : Int)
  | _ => .int .u64 (N.lost : Int)
structure NetAt (w : World) (b bm : Nat) (N : NetD) : Prop where
  head : CellsAt w b 3 (netCell bm N)
  map : MapL Try.prog 28 w bm (N.G.map entG)
  ne : b ≠ bm
  fine : Fine N
def ptr (b : Nat) : Value := .pointer (some ⟨b, 0, none⟩)
theorem keyedU : Maps.Keyed Try.prog 28 := Maps.int_keyed Try.underlying28
theorem wf_u64 {x : Int} (h0 : 0 ≤ x) (h1 : x < 18446744073709551616) : (Lit.int .u64 x).wf = true := by
  rw [show (Lit.int .u64 x).wf = (decide (IntKind.u64.min ≤ x) && decide (x ≤ IntKind.u64.max)) from rfl, Bool.and_eq_true, decide_eq_true_eq, decide_eq_true_eq]
  exact ⟨by show (0 : Int) ≤ x; exact h0, by show x ≤ 18446744073709551615; omega⟩
theorem keyN (n : Nat) (h : n < 18446744073709551616) : keyOf Try.prog 28 (.int .u64 (n : Int)) = some (keyU n) :=
  Maps.keyOf_int_mk Try.underlying28 (wf_u64 (by omega) (by omega))
def zeroG : GramD := ⟨0, [], []⟩
theorem zG (w : World) : (zeroValue 32).run Try.prog w = .ok (gramV zeroG) w := by kernel_rfl
section
variable {w w' : World} {b bm : Nat} {N : NetD} {T : Nat → Prop}
theorem mapl_kept {es : List (Lit × Value)} (h : MapL Try.prog 28 w bm es) (hk : Kept T w w') (hT : ¬ T bm) : MapL Try.prog 28 w' bm es := by
  have hlt := h.lt
  obtain ⟨xs, clock, hh, r⟩ := h
  exact ⟨xs, clock, (hk.block bm hlt hT).trans hh, r⟩
theorem NetAt.kept (h : NetAt w b bm N) (hk : Kept T w w') (hb : ¬ T b) (hm : ¬ T bm) : NetAt w' b bm N := ⟨h.head.kept hk (h.head.lt (by omega)) hb, mapl_kept h.map hk hm, h.ne, h.fine⟩
theorem NetAt.next (h : NetAt w b bm N) (hb : Below w.heap.size w w') : NetAt w' b bm N := h.kept (Kept.of_below (T := fun _ => False) hb) (fun h => h) (fun h => h)
theorem NetAt.drewN (h : NetAt w b bm N) (n : Nat) : NetAt (w.drewN n) b bm N := h.next ((Below.refl _ w).drewN n)
theorem NetAt.drew (h : NetAt w b bm N) : NetAt w.drew b bm N := h.drewN 1
theorem NetAt.c0 (h : NetAt w b bm N) : w.cell? ⟨b, 0, none⟩ = some (.map (some bm)) := (h.head 0 (by omega)).1
theorem NetAt.c1 (h : NetAt w b bm N) : w.cell? ⟨b, 1, none⟩ = some (.int .u64 (N.last : Int)) := (h.head 1 (by omega)).1
theorem NetAt.c2 (h : NetAt w b bm N) : w.cell? ⟨b, 2, none⟩ = some (.int .u64 (N.lost : Int)) := (h.head 2 (by omega)).1
theorem NetAt.f1 (h : NetAt w b bm N) : w.frozen? ⟨b, 1, none⟩ = false := (h.head 1 (by omega)).2
theorem NetAt.f2 (h : NetAt w b bm N) : w.frozen? ⟨b, 2, none⟩ = false := (h.head 2 (by omega)).2
theorem NetAt.lt (h : NetAt w b bm N) : b < w.heap.size := h.head.lt (by omega)
theorem NetAt.look (h : NetAt w b bm N) {n : Nat} (hn : n < 18446744073709551616) : (Instr.lookup 55 (.map (some bm)) (.int .u64 (n : Int)) true).run Try.prog w = .ok (.tuple #[((findG N.G n).map gramV).getD (gramV zeroG), .bool (findG N.G n).isSome]) w := by
  have := h.map.look_ok keyedU Try.underlying55 (zG w) (keyN n hn)
  rw [look_ent] at this
  rw [this]
  cases findG N.G n <;> rfl
theorem NetAt.look1 (h : NetAt w b bm N) {n : Nat} (hn : n < 18446744073709551616) : (Instr.lookup 55 (.map (some bm)) (.int .u64 (n : Int)) false).run Try.prog w = .ok (((findG N.G n).map gramV).getD (gramV zeroG)) w := by
  have := h.map.look keyedU Try.underlying55 (zG w) (keyN n hn)
  rw [look_ent] at this
  exact this
theorem NetAt.len (h : NetAt w b bm N) (ty : TypeId) : (Builtin.len_ #[55] ty #[.map (some bm)]).run Try.prog w = .ok (.int .i64 (N.G.length : Nat)) w := by
  have := h.map.len Try.underlying55 ty
  rw [List.length_map] at this
  exact this
/-- A message goes. -/
theorem NetAt.dropped (h : NetAt w b bm N) {n : Nat} (hn : n < 18446744073709551616) (ty : TypeId) : ∃ w', (Builtin.delete_ #[55, 28] ty #[.map (some bm), .int .u64 (n : Int)]).run Try.prog w = .ok (.tuple #[]) w' ∧ NetAt w' b bm (dropN N n) ∧ Kept (fun i => i = bm) w w' := by
  obtain ⟨w', hr, hm, ht⟩ := h.map.drop keyedU Try.underlying55 (keyN n hn) ty
  rw [del_ent] at hm
  have hk : Kept (fun i => i = bm) w w' := Kept.turned (T := fun i => i = bm) (Kept.refl _ w) ht (.inl rfl)
  exact ⟨w', hr, ⟨h.head.kept hk h.lt h.ne, hm, h.ne, h.fine.drop n⟩, hk⟩
/-- A message comes in, or is turned. -/
theorem NetAt.stored (h : NetAt w b bm N) (g : GramD) (hn : g.id < 18446744073709551616) : ∃ w', (Instr.mapUpdate 55 (.map (some bm)) (.int .u64 (g.id : Int)) (gramV g)).run Try.prog w = .ok () w' ∧ MapL Try.prog 28 w' bm (putL (N.G.map entG) (keyU g.id) (gramV g)) ∧ Kept (fun i => i = bm) w w' := by
  obtain ⟨w', hr, hm, ht⟩ := h.map.store keyedU Try.underlying55 (by rw [List.length_map]; have := h.fine.few; unfold maxLen; omega) (keyN g.id hn) (val := gramV g)
  exact ⟨w', hr, hm, Kept.turned (T := fun i => i = bm) (Kept.refl _ w) ht (.inl rfl)⟩
end
theorem There_no (w : World) : Calls Try.prog 22 #[.pointer none] w fun e w' => e = .returned (.bool false) ∧ w' = w := by
  go_enter Try.func22, Try.ntmps22
  go_wp2
  go_ret
  exact ⟨rfl, rfl⟩
theorem There_f {w : World} {b bm : Nat} {N : NetD} (h : NetAt w b bm N) : Calls Try.prog 22 #[ptr b] w fun e w' => e = .returned (.bool true) ∧ w' = w := by
  have c0 := h.c0
  have hq : (binOp BinOp.neq 55 (.map (some bm)) (.map none)).run Try.prog w = .ok (.bool true) w := by kernel_rfl
  clear h
  unfold ptr
  go_enter Try.func22, Try.ntmps22
  go_wp2
  go_ret
  exact ⟨rfl, rfl⟩
theorem Full_f {w : World} {b bm : Nat} {N : NetD} (h : NetAt w b bm N) : Calls Try.prog 23 #[ptr b] w fun e w' => e = .returned (.bool (decide (1024 ≤ N.G.length))) ∧ w' = w := by
  have c0 := h.c0
  have hl := h.len 3
  have HE := Lib.hid (show decide ((1024 : Int) ≤ (N.G.length : Int)) = decide (1024 ≤ N.G.length) by rw [Bool.eq_iff_iff]; simp; omega)
  clear h
  unfold ptr
  go_enter Try.func23, Try.ntmps23
  go_wp2
  go_ret
  rw [← HE.out]
  exact ⟨rfl, rfl⟩
theorem Lost_f {w : World} {b bm : Nat} {N : NetD} (h : NetAt w b bm N) : Calls Try.prog 17 #[ptr b] w fun e w' => e = .returned (.int .u64 (N.lost : Int)) ∧ w' = w := by
  have HT := Lib.hid (There_f h)
  have c2 := h.c2
  clear h
  unfold ptr at *
  go_enter Try.func17, Try.ntmps17
  go_wp2_with fail
  with_reducible refine HT.out.mono ?_
  rintro e w1 ⟨rfl, rfl⟩
  go_wp2
  go_ret
  exact ⟨rfl, rfl⟩
theorem New_f (w : World) : Calls Try.prog 9 #[] w fun e w' => ∃ b bm, e = .returned (ptr b) ∧ NetAt w' b bm ⟨[], 0, 0⟩ ∧ Below w.heap.size w w' ∧ w.heap.size ≤ b ∧ w.heap.size ≤ bm := by
  have hm := Lib.hid (made w Try.prog 28)
  have hmm := @run_makeMap Try.prog
  go_enter Try.func9, Try.ntmps9
  go_wp2
  go_ret
  refine ⟨w.heap.size + 1, w.heap.size, rfl, ?_, ((Below.refl _ w).alloc (Nat.le_refl _) _).alloc (by simp) _, by omega, Nat.le_refl _⟩
  have hc := cells_made (w.alloc (.map #[] 0)) #[.map (some w.heap.size), .int .u64 0, .int .u64 0] 57
  have hz : (w.alloc (.map #[] 0)).heap.size = w.heap.size + 1 := by simp
  rw [hz] at hc
  refine ⟨hc.congr fun j hj => ?_, hm.out.next ((Below.refl _ _).alloc (Nat.le_refl _) _), by omega, new_fine⟩
  have : j = 0 ∨ j = 1 ∨ j = 2 := by have : j < 3 := hj; omega
  rcases this with rfl | rfl | rfl <;> rfl
set_option maxRecDepth 100000 in
theorem Put_f {w : World} {b bm : Nat} {N : NetD} (h : NetAt w b bm N) (hf : N.G.length < 1024) (hl : N.last < 4611686018427387904) (to_ t : List UInt8) : Calls Try.prog 24 #[ptr b, .string (B to_), .string (B t)] w fun e w' => e = .returned (.int .u64 ((N.last + 1 : Nat) : Int)) ∧ NetAt w' b bm (putN N to_ t) ∧ Kept (fun i => i = b ∨ i = bm) w w' := by
  have c0 := h.c0
  have c1 := h.c1
  have f1 := h.f1
  have hlt := h.lt
  have hne := h.ne
  have eW : IntKind.u64.wrap ((N.last : Int) + 1) = (N.last : Int) + 1 := by rw [IntKind.wrap_u64]; omega
  have hc := h.head.set (i := 1) (by omega) (.int .u64 ((N.last : Int) + 1))
  have h1 : NetAt (w.setCell ⟨b, 1, none⟩ (.int .u64 ((N.last : Int) + 1))) b bm ⟨N.G, N.last + 1, N.lost⟩ := by
    refine ⟨hc.congr fun j hj => ?_, h.map.setCell (fun e => h.ne e.symm) _, h.ne, ⟨h.fine.rise, fun g hg => by have := h.fine.low g hg; simp; omega, h.fine.few⟩⟩
    have : j = 0 ∨ j = 1 ∨ j = 2 := by omega
    rcases this with rfl | rfl | rfl <;> simp [netCell]
  obtain ⟨W2, hst, hm2, hk2⟩ := h1.drew.stored ⟨N.last + 1, to_, t⟩ (by simp; omega)
  have H := Lib.hid h
  have H1 := Lib.hid h1
  have HM := Lib.hid hm2
  have HK := Lib.hid hk2
  simp only [gramV] at hst
  have eL : ((N.last + 1 : Nat) : Int) = (N.last : Int) + 1 := by omega
  rw [eL] at hst
  have c1' : W2.cell? ⟨b, 1, none⟩ = some (.int .u64 ((N.last : Int) + 1)) := (h1.drew.head.kept hk2 h1.drew.lt h1.ne 1 (by omega)).1
  clear h h1 hm2 hk2 hc eL
  unfold ptr
  go_enter Try.func24, Try.ntmps24
  go_wp2
  go_region
  all_goals go_wp2
  go_ret
  refine ⟨by show Ending.returned (.int .u64 ((N.last : Int) + 1)) = _; congr 2, ?_, ?_⟩
  · have hf' := H.out.fine.put hf to_ t
    refine ⟨(H1.out.drew.head.kept HK.out H1.out.drew.lt H.out.ne).congr fun j hj => ?_, ?_, H.out.ne, hf'⟩
    · have : j = 0 ∨ j = 1 ∨ j = 2 := by omega
      rcases this with rfl | rfl | rfl <;> rfl
    · have := HM.out
      rw [put_new N.G ⟨N.last + 1, to_, t⟩ (fun x hx => by have := H.out.fine.low x hx; simp; omega)] at this
      exact this
  · have k1 : Kept (fun i => i = b ∨ i = bm) w ((w.setCell ⟨b, 1, none⟩ (.int .u64 ((N.last : Int) + 1))).drew) := by
      have := (Kept.refl (fun i => i = b ∨ i = bm) w).setCell (p := ⟨b, 1, none⟩) (.inl (.inl rfl)) (.int .u64 ((N.last : Int) + 1))
      exact ⟨this.os, this.tape, this.output, this.size, this.block⟩
    exact k1.trans HK.out (fun i hi => .inl (.inr hi))
end Go.Proofs.Ytplfnjpoikhmbaa.Nt
