/-
  Sums in memory (layer 12): two maps with the same keys; the walks of put.
-/
import Derived.Test.YtloackmpmhgkeaaCntMath
import Derived.Test.YtloackmpmhgkeaaKept
import Derived.Test.YtloackmpmhgkeaaMaps
import Derived.Test.YtloackmpmhgkeaaChecked
import Derived.WalkSpells
import Derived.Outline
import Derived.StillTailTactics
import Derived.BigQuiet
import Derived.Deep.RegionHeld3
open Go Go.RowKit
namespace Go.Proofs.Ytloackmpmhgkeaa.Cnt
open Base Mp

def u64 (n : Nat) : Value := .int .u64 (n : Int)
abbrev Ent := List (Lit × (Nat × Nat))
def keyS (f : List UInt8) : Lit := .string f
theorem keyB (f : List UInt8) (hf : f.length ≤ maxLen) : keyOf Try.prog 9 (.string (B f)) = some (keyS f) := by
  simp [keyOf, mapKey, Try.underlying9, keyS, B_size, B_data, hf]
theorem keyedS : Maps.Keyed Try.prog 9 := Maps.string_keyed Try.underlying9
theorem isKey (f : List UInt8) : WideAt.IsKeyLit (keyS f) := by simp [WideAt.IsKeyLit, keyS]
theorem zU (w : World) : (zeroValue 41).run Try.prog w = .ok (.int .u64 0) w := by kernel_rfl
def plusE (es : Ent) : List (Lit × Value) := mapE (fun _ v => u64 v.1) es
def minusE (es : Ent) : List (Lit × Value) := mapE (fun _ v => u64 v.2) es
/-- Sums in memory. -/
structure SumsAt (w : World) (bp bm : Nat) (es : Ent) : Prop where
  apart : bp ≠ bm
  plus : MapL Try.prog 9 w bp (plusE es)
  minus : MapL Try.prog 9 w bm (minusE es)
def getE (es : Ent) (k : Lit) : Nat × Nat := (lookL es k).getD (0, 0)
theorem look_plus (es : Ent) (k : Lit) : (lookL (plusE es) k).getD (.int .u64 0) = u64 (getE es k).1 := by
  unfold plusE getE
  rw [mapE_look]
  cases lookL es k <;> rfl
theorem look_minus (es : Ent) (k : Lit) : (lookL (minusE es) k).getD (.int .u64 0) = u64 (getE es k).2 := by
  unfold minusE getE
  rw [mapE_look]
  cases lookL es k <;> rfl
def sumsV (bp bm : Nat) : Value := .agg #[.map (some bp), .map (some bm)]
def cntV (c : CntD) : Value := .agg #[.string (B c.by_), u64 c.plus, u64 c.minus]
theorem wrap_u64 (n : Int) : IntKind.u64.wrap n = n % 18446744073709551616 := by
  simp [IntKind.wrap, IntKind.signed, IntKind.bits]
theorem greater_calls (a b : Nat) (ha : a < 2 ^ 64) (hb : b < 2 ^ 64) (w : World) : Calls Try.prog 29 #[u64 a, u64 b] w fun e w' => e = .returned (u64 (max a b)) ∧ w' = w := by
  unfold u64
  have h1 : (a : Int) < 18446744073709551616 := by omega
  have h2 : (b : Int) < 18446744073709551616 := by omega
  have hm : (Builtin.max_ #[41, 41] 41 #[.int .u64 (a : Int), .int .u64 (b : Int)]).run Try.prog w = .ok (.int .u64 ((max a b : Nat) : Int)) w := by
    have e : (if (b : Int) > (a : Int) then (b : Int) else a) = ((max a b : Nat) : Int) := by split <;> omega
    rw [← e]
    rfl
  go_enter Try.func29, Try.ntmps29
  go_wp2
  go_ret
  exact ⟨rfl, rfl⟩
def tog (a b : Nat) : Nat := (a + b) % 2 ^ 64
theorem plus_calls (a b : Nat) (ha : a < 2 ^ 64) (hb : b < 2 ^ 64) (w : World) : Calls Try.prog 30 #[u64 a, u64 b] w fun e w' => e = .returned (u64 (tog a b)) ∧ w' = w := by
  unfold tog
  unfold u64
  have h1 : (a : Int) < 18446744073709551616 := by omega
  have h2 : (b : Int) < 18446744073709551616 := by omega
  go_enter Try.func30, Try.ntmps30
  go_wp2
  go_ret
  have : IntKind.u64.wrap ((a : Int) + b) = (((a + b) % 2 ^ 64 : Nat) : Int) := by
    rw [wrap_u64]
    omega
  rw [this]
  exact ⟨rfl, rfl⟩
theorem _root_.Go.Proofs.Ytloackmpmhgkeaa.Base.Kept.drew {T : Nat → Prop} {a w : World} (h : Kept T a w) : Kept T a w.drew := ⟨h.os, h.tape, h.output, h.size, h.block⟩
theorem turned_cell {w w' : World} {b : Nat} (ht : w.mapTurned w' b) (a : Addr) (ha : a.block ≠ b) : w'.cell? a = w.cell? a := by
  have hk : Kept (fun i => i = b) w w' := (Kept.refl _ w).turned ht (.inl rfl)
  rcases Nat.lt_or_ge a.block w.heap.size with h | h
  · exact World.cell?_of_block (hk.block a.block h ha)
  · obtain ⟨es, clock, es', clock', h1, rfl⟩ := ht
    unfold World.cell? ChangeMaps.setBlock
    simp only
    rw [Array.getElem?_setIfInBounds_ne (fun e => ha e.symm)]
/-- The walk of put: both maps, key by key. -/
theorem PutG_calls (w : World) (bp bm : Nat) (es : Ent) (c : CntD) (h : SumsAt w bp bm es) (hn : es.length < maxLen) (hv : (getE es (keyS c.by_)).1 < 2 ^ 64 ∧ (getE es (keyS c.by_)).2 < 2 ^ 64) (hb : c.by_.length ≤ maxLen) (hp : c.plus < 2 ^ 64) (hm : c.minus < 2 ^ 64) :
    Calls Try.prog 22 #[sumsV bp bm, cntV c, .func (.func 29) #[] #[]] w fun e w' => e = .returned (.tuple #[]) ∧
      SumsAt w' bp bm (putL es (keyS c.by_) (max (getE es (keyS c.by_)).1 c.plus, max (getE es (keyS c.by_)).2 c.minus)) ∧ Kept (fun i => i = bp ∨ i = bm) w w' := by
  have H := Lib.hid h
  have HV := Lib.hid hv
  have HC := Lib.hid (And.intro hb (And.intro hp hm))
  clear h hv hb hp hm
  unfold sumsV cntV u64
  go_enter Try.func22, Try.ntmps22
  go_wp2_with fail
  have hlt1 := H.out.plus.lt
  have hlt2 := H.out.minus.lt
  have hb2 : Below w.heap.size w ((w.alloc (.cells #[Value.map (some bp), Value.map (some bm)] 48)).alloc (.cells #[Value.string (B c.by_), Value.int .u64 (c.plus : Int), Value.int .u64 (c.minus : Int)] 43)) :=
    ((Below.refl _ w).alloc (Nat.le_refl _) _).alloc (by simp) _
  have hc0 : ((w.alloc (.cells #[Value.map (some bp), Value.map (some bm)] 48)).alloc (.cells #[Value.string (B c.by_), Value.int .u64 (c.plus : Int), Value.int .u64 (c.minus : Int)] 43)).cell? ⟨w.heap.size, 0, none⟩ = some (.map (some bp)) := by simp
  have hc1 : ((w.alloc (.cells #[Value.map (some bp), Value.map (some bm)] 48)).alloc (.cells #[Value.string (B c.by_), Value.int .u64 (c.plus : Int), Value.int .u64 (c.minus : Int)] 43)).cell? ⟨w.heap.size, 1, none⟩ = some (.map (some bm)) := by simp
  have hd0 : ((w.alloc (.cells #[Value.map (some bp), Value.map (some bm)] 48)).alloc (.cells #[Value.string (B c.by_), Value.int .u64 (c.plus : Int), Value.int .u64 (c.minus : Int)] 43)).cell? ⟨w.heap.size + 1, 0, none⟩ = some (.string (B c.by_)) := by simp
  have hd1 : ((w.alloc (.cells #[Value.map (some bp), Value.map (some bm)] 48)).alloc (.cells #[Value.string (B c.by_), Value.int .u64 (c.plus : Int), Value.int .u64 (c.minus : Int)] 43)).cell? ⟨w.heap.size + 1, 1, none⟩ = some (.int .u64 (c.plus : Int)) := by simp
  have hd2 : ((w.alloc (.cells #[Value.map (some bp), Value.map (some bm)] 48)).alloc (.cells #[Value.string (B c.by_), Value.int .u64 (c.plus : Int), Value.int .u64 (c.minus : Int)] 43)).cell? ⟨w.heap.size + 1, 2, none⟩ = some (.int .u64 (c.minus : Int)) := by simp
  generalize ((w.alloc (.cells #[Value.map (some bp), Value.map (some bm)] 48)).alloc (.cells #[Value.string (B c.by_), Value.int .u64 (c.plus : Int), Value.int .u64 (c.minus : Int)] 43)) = W2 at *
  obtain ⟨hbl, hp, hm⟩ := HC.out
  obtain ⟨hv1, hv2⟩ := HV.out
  have hp2 : MapL Try.prog 9 W2.drew bp (plusE es) := (H.out.plus.next hb2).drew
  have hlk := hp2.look keyedS Try.underlying46 (zU W2.drew) (keyB c.by_ hbl)
  rw [look_plus] at hlk
  unfold u64 at hlk
  have hcall := (greater_calls (getE es (keyS c.by_)).1 c.plus hv1 hp W2.drew)
  unfold u64 at hcall
  go_still_tail 13, (by kernel_rfl)
  still_call hcall
  refine wpStill_nil ?_
  obtain ⟨w3, hrun3, hm3, ht3⟩ := hp2.store keyedS Try.underlying46 (by rw [plusE, mapE_length]; exact hn) (keyB c.by_ hbl) (val := u64 (max (getE es (keyS c.by_)).1 c.plus))
  unfold u64 at hrun3
  change wpList _ _ _ _ _ W2.drew
  have hN1 : bp ≠ w.heap.size := by omega
  have hN2 : bp ≠ w.heap.size + 1 := by omega
  have hc1' : w3.cell? ⟨w.heap.size, 1, none⟩ = some (.map (some bm)) := (turned_cell ht3 _ (Ne.symm hN1)).trans hc1
  have hd0' : w3.cell? ⟨w.heap.size + 1, 0, none⟩ = some (.string (B c.by_)) := (turned_cell ht3 _ (Ne.symm hN2)).trans hd0
  have hd2' : w3.cell? ⟨w.heap.size + 1, 2, none⟩ = some (.int .u64 (c.minus : Int)) := (turned_cell ht3 _ (Ne.symm hN2)).trans hd2
  have hq2 : MapL Try.prog 9 W2.drew bm (minusE es) := (H.out.minus.next hb2).drew
  have hq3 : MapL Try.prog 9 w3.drew bm (minusE es) := (hq2.kept ht3.grown (by intro e; injection e with e; exact H.out.apart e.symm)).drew
  have hlk3 := hq3.look keyedS Try.underlying46 (zU w3.drew) (keyB c.by_ hbl)
  rw [look_minus] at hlk3
  unfold u64 at hlk3
  have hcall3 := (greater_calls (getE es (keyS c.by_)).2 c.minus hv2 hm w3.drew)
  unfold u64 at hcall3
  obtain ⟨w4, hrun4, hm4, ht4⟩ := hq3.store keyedS Try.underlying46 (by rw [minusE, mapE_length]; exact hn) (keyB c.by_ hbl) (val := u64 (max (getE es (keyS c.by_)).2 c.minus))
  unfold u64 at hrun4
  go_wp2_with fail
  go_still_tail 13, (by kernel_rfl)
  still_call hcall3
  refine wpStill_nil ?_
  change wpList _ _ _ _ _ w3.drew
  go_wp2
  refine bodyPost_end (results_none rfl _ _ _) rfl ?_
  have hk2 : Kept (fun i => i = bp ∨ i = bm) w W2 := Kept.of_below hb2
  refine ⟨rfl, (⟨H.out.apart, ?_, ?_⟩ : SumsAt w4 bp bm _), ((hk2.drew.turned ht3 (.inl (.inl rfl))).drew.turned ht4 (.inl (.inr rfl)))⟩
  · have := mapE_put (fun (_ : Lit) (v : Nat × Nat) => u64 v.1) es (keyS c.by_) (max (getE es (keyS c.by_)).1 c.plus, max (getE es (keyS c.by_)).2 c.minus)
    have hx : MapL Try.prog 9 w3.drew bp (putL (plusE es) (keyS c.by_) (u64 (max (getE es (keyS c.by_)).1 c.plus))) := World.ownsMap.drew hm3
    unfold plusE at hx ⊢
    rw [← this]
    exact hx.kept ht4.grown (by intro e; injection e with e; exact H.out.apart e)
  · have := mapE_put (fun (_ : Lit) (v : Nat × Nat) => u64 v.2) es (keyS c.by_) (max (getE es (keyS c.by_)).1 c.plus, max (getE es (keyS c.by_)).2 c.minus)
    unfold minusE at hm4 ⊢
    rw [← this]
    exact hm4
/-- .. and with together's closure. -/
theorem PutT_calls (w : World) (bp bm : Nat) (es : Ent) (c : CntD) (h : SumsAt w bp bm es) (hn : es.length < maxLen) (hv : (getE es (keyS c.by_)).1 < 2 ^ 64 ∧ (getE es (keyS c.by_)).2 < 2 ^ 64) (hb : c.by_.length ≤ maxLen) (hp : c.plus < 2 ^ 64) (hm : c.minus < 2 ^ 64) :
    Calls Try.prog 22 #[sumsV bp bm, cntV c, .func (.func 30) #[] #[]] w fun e w' => e = .returned (.tuple #[]) ∧
      SumsAt w' bp bm (putL es (keyS c.by_) (tog (getE es (keyS c.by_)).1 c.plus, tog (getE es (keyS c.by_)).2 c.minus)) ∧ Kept (fun i => i = bp ∨ i = bm) w w' := by
  have H := Lib.hid h
  have HV := Lib.hid hv
  have HC := Lib.hid (And.intro hb (And.intro hp hm))
  clear h hv hb hp hm
  unfold sumsV cntV u64
  go_enter Try.func22, Try.ntmps22
  go_wp2_with fail
  have hlt1 := H.out.plus.lt
  have hlt2 := H.out.minus.lt
  have hb2 : Below w.heap.size w ((w.alloc (.cells #[Value.map (some bp), Value.map (some bm)] 48)).alloc (.cells #[Value.string (B c.by_), Value.int .u64 (c.plus : Int), Value.int .u64 (c.minus : Int)] 43)) :=
    ((Below.refl _ w).alloc (Nat.le_refl _) _).alloc (by simp) _
  have hc0 : ((w.alloc (.cells #[Value.map (some bp), Value.map (some bm)] 48)).alloc (.cells #[Value.string (B c.by_), Value.int .u64 (c.plus : Int), Value.int .u64 (c.minus : Int)] 43)).cell? ⟨w.heap.size, 0, none⟩ = some (.map (some bp)) := by simp
  have hc1 : ((w.alloc (.cells #[Value.map (some bp), Value.map (some bm)] 48)).alloc (.cells #[Value.string (B c.by_), Value.int .u64 (c.plus : Int), Value.int .u64 (c.minus : Int)] 43)).cell? ⟨w.heap.size, 1, none⟩ = some (.map (some bm)) := by simp
  have hd0 : ((w.alloc (.cells #[Value.map (some bp), Value.map (some bm)] 48)).alloc (.cells #[Value.string (B c.by_), Value.int .u64 (c.plus : Int), Value.int .u64 (c.minus : Int)] 43)).cell? ⟨w.heap.size + 1, 0, none⟩ = some (.string (B c.by_)) := by simp
  have hd1 : ((w.alloc (.cells #[Value.map (some bp), Value.map (some bm)] 48)).alloc (.cells #[Value.string (B c.by_), Value.int .u64 (c.plus : Int), Value.int .u64 (c.minus : Int)] 43)).cell? ⟨w.heap.size + 1, 1, none⟩ = some (.int .u64 (c.plus : Int)) := by simp
  have hd2 : ((w.alloc (.cells #[Value.map (some bp), Value.map (some bm)] 48)).alloc (.cells #[Value.string (B c.by_), Value.int .u64 (c.plus : Int), Value.int .u64 (c.minus : Int)] 43)).cell? ⟨w.heap.size + 1, 2, none⟩ = some (.int .u64 (c.minus : Int)) := by simp
  generalize ((w.alloc (.cells #[Value.map (some bp), Value.map (some bm)] 48)).alloc (.cells #[Value.string (B c.by_), Value.int .u64 (c.plus : Int), Value.int .u64 (c.minus : Int)] 43)) = W2 at *
  obtain ⟨hbl, hp, hm⟩ := HC.out
  obtain ⟨hv1, hv2⟩ := HV.out
  have hp2 : MapL Try.prog 9 W2.drew bp (plusE es) := (H.out.plus.next hb2).drew
  have hlk := hp2.look keyedS Try.underlying46 (zU W2.drew) (keyB c.by_ hbl)
  rw [look_plus] at hlk
  unfold u64 at hlk
  have hcall := (plus_calls (getE es (keyS c.by_)).1 c.plus hv1 hp W2.drew)
  unfold u64 at hcall
  go_still_tail 13, (by kernel_rfl)
  still_call hcall
  refine wpStill_nil ?_
  obtain ⟨w3, hrun3, hm3, ht3⟩ := hp2.store keyedS Try.underlying46 (by rw [plusE, mapE_length]; exact hn) (keyB c.by_ hbl) (val := u64 (tog (getE es (keyS c.by_)).1 c.plus))
  unfold u64 at hrun3
  change wpList _ _ _ _ _ W2.drew
  have hN1 : bp ≠ w.heap.size := by omega
  have hN2 : bp ≠ w.heap.size + 1 := by omega
  have hc1' : w3.cell? ⟨w.heap.size, 1, none⟩ = some (.map (some bm)) := (turned_cell ht3 _ (Ne.symm hN1)).trans hc1
  have hd0' : w3.cell? ⟨w.heap.size + 1, 0, none⟩ = some (.string (B c.by_)) := (turned_cell ht3 _ (Ne.symm hN2)).trans hd0
  have hd2' : w3.cell? ⟨w.heap.size + 1, 2, none⟩ = some (.int .u64 (c.minus : Int)) := (turned_cell ht3 _ (Ne.symm hN2)).trans hd2
  have hq2 : MapL Try.prog 9 W2.drew bm (minusE es) := (H.out.minus.next hb2).drew
  have hq3 : MapL Try.prog 9 w3.drew bm (minusE es) := (hq2.kept ht3.grown (by intro e; injection e with e; exact H.out.apart e.symm)).drew
  have hlk3 := hq3.look keyedS Try.underlying46 (zU w3.drew) (keyB c.by_ hbl)
  rw [look_minus] at hlk3
  unfold u64 at hlk3
  have hcall3 := (plus_calls (getE es (keyS c.by_)).2 c.minus hv2 hm w3.drew)
  unfold u64 at hcall3
  obtain ⟨w4, hrun4, hm4, ht4⟩ := hq3.store keyedS Try.underlying46 (by rw [minusE, mapE_length]; exact hn) (keyB c.by_ hbl) (val := u64 (tog (getE es (keyS c.by_)).2 c.minus))
  unfold u64 at hrun4
  go_wp2_with fail
  go_still_tail 13, (by kernel_rfl)
  still_call hcall3
  refine wpStill_nil ?_
  change wpList _ _ _ _ _ w3.drew
  go_wp2
  refine bodyPost_end (results_none rfl _ _ _) rfl ?_
  have hk2 : Kept (fun i => i = bp ∨ i = bm) w W2 := Kept.of_below hb2
  refine ⟨rfl, (⟨H.out.apart, ?_, ?_⟩ : SumsAt w4 bp bm _), ((hk2.drew.turned ht3 (.inl (.inl rfl))).drew.turned ht4 (.inl (.inr rfl)))⟩
  · have := mapE_put (fun (_ : Lit) (v : Nat × Nat) => u64 v.1) es (keyS c.by_) (tog (getE es (keyS c.by_)).1 c.plus, tog (getE es (keyS c.by_)).2 c.minus)
    have hx : MapL Try.prog 9 w3.drew bp (putL (plusE es) (keyS c.by_) (u64 (tog (getE es (keyS c.by_)).1 c.plus))) := World.ownsMap.drew hm3
    unfold plusE at hx ⊢
    rw [← this]
    exact hx.kept ht4.grown (by intro e; injection e with e; exact H.out.apart e)
  · have := mapE_put (fun (_ : Lit) (v : Nat × Nat) => u64 v.2) es (keyS c.by_) (tog (getE es (keyS c.by_)).1 c.plus, tog (getE es (keyS c.by_)).2 c.minus)
    unfold minusE at hm4 ⊢
    rw [← this]
    exact hm4
end Go.Proofs.Ytloackmpmhgkeaa.Cnt
