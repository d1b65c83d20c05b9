/-
  The walk of (*Hash).mix (layer 4): a block is taken into the state.
-/
import Derived.Test.YtjhmpoekpambaaaDoorShaWords
import Derived.Test.YtjhmpoekpambaaaDoorKept
import Derived.Deep.RegionWith
import Derived.Deep.QuietTactic
import Derived.BigQuiet
open Go Go.RowKit
namespace Go.Proofs.YtjhmpoekpambaaaDoor.Sha
open Base

/-- A hash's cells: made, its state, its block, its size. -/
def hcell (s : S8) (bs : List UInt8) (n : Nat) (j : Nat) : Value :=
  if j = 0 then .bool true else if j < 9 then .int .u32 (U (s.get (j - 1))) else if j < 73 then .int .u8 ((bs.getD (j - 9) 0).toNat : Int) else .int .u64 (n : Int)
def HashC (w : World) (b : Nat) (s : S8) (bs : List UInt8) (n : Nat) : Prop := CellsAt w b 74 (hcell s bs n)
/-- The table of the rounds' numbers, in a world. -/
def TabOk (w : World) : Prop := ∀ i : Nat, i < 64 → w.cell? ⟨1, i, none⟩ = some (.int .u32 (U (Ks.getD i 0)))
def wcell (l : List UInt32) (j : Nat) : Value := .int .u32 (U (l.getD j 0))

theorem HashC.below {w w' : World} {b : Nat} {s : S8} {bs : List UInt8} {n : Nat} (h : HashC w b s bs n) (hb : Below w.heap.size w w') : HashC w' b s bs n := CellsAt.below h hb (h.lt (by omega))
theorem HashC.byte {w : World} {b : Nat} {s : S8} {bs : List UInt8} {n : Nat} (h : HashC w b s bs n) (i : Nat) (hi : i < 64) : w.cell? ⟨b, 9 + i, none⟩ = some (.int .u8 ((bs.getD i 0).toNat : Int)) := by
  rw [(h (9 + i) (by omega)).1]
  unfold hcell
  rw [if_neg (by omega), if_neg (by omega), if_pos (by omega), Nat.add_sub_cancel_left]
theorem zeros (w : World) (t : TypeId) : CellsAt (w.alloc (.cells (Array.replicate 64 (.int .u32 0)) t)) w.heap.size 64 (wcell []) := by
  have h := cells_made w (Array.replicate 64 (.int .u32 0)) t
  rw [Array.size_replicate] at h
  exact h.congr fun j hj => by simp [wcell, hj, U]
theorem firsts_length (bs : List UInt8) (k : Nat) : (firsts bs k).length = k := by simp [firsts]
theorem firsts_succ (bs : List UInt8) (k : Nat) : firsts bs (k + 1) = firsts bs k ++ [word bs k] := by simp [firsts, List.range_succ]
theorem wcell_put (l : List UInt32) (x : UInt32) {w : World} {b m : Nat} (h : CellsAt w b m (wcell l)) (hl : l.length < m) (v : Value) (hv : v = .int .u32 (U x)) :
    CellsAt (w.setCell ⟨b, l.length, none⟩ v) b m (wcell (l ++ [x])) := by
  refine (h.set hl v).congr fun j hj => ?_
  split
  · rename_i e
    rw [e, hv]
    simp [wcell]
  · rename_i e
    unfold wcell
    rcases Nat.lt_or_ge j l.length with h1 | h1
    · simp [List.getElem?_append_left h1]
    · rw [List.getD_eq_getElem?_getD, List.getD_eq_getElem?_getD, List.getElem?_eq_none h1, List.getElem?_eq_none (by simp; omega)]

theorem arr64 : Tryd.prog.underlying 45 = some (.array (Tryd.prog.arrayLen 45) (Tryd.prog.elem 45)) := by kernel_rfl
theorem len64 : Tryd.prog.arrayLen 45 = 64 := by kernel_rfl
theorem elem64 : Tryd.prog.elem 45 = 5 := by kernel_rfl
theorem add_at (b o l : Nat) : (⟨b, o, none⟩ : Addr).add l = ⟨b, o + l, none⟩ := by by_cases h : l = 0 <;> simp [Addr.add, h]
theorem slice64 (w : World) (b o l h : Nat) (hl : l ≤ h) (hh : h ≤ 64) (hl2 : l < 64) :
    (Instr.sliceAt 45 (.pointer (some ⟨b, o, none⟩)) (some (.int .i64 (l : Int))) (some (.int .i64 (h : Int))) none).run Tryd.prog w = .ok (.slice (some ⟨b, o + l, none⟩) (h - l) (64 - l)) w := by
  rw [run_sliceAt_array_lh w _ _ arr64 .i64 .i64 _ _ (by omega) (by omega) (by rw [len64]; omega), elem64, Tryd.sizeOf5]
  simp only [Result.andThen, slicedAt, len64, Int.toNat_natCast]
  rw [if_neg (by omega), Nat.mul_one, add_at]
theorem slice64_l (w : World) (b o l : Nat) (hl2 : l < 64) :
    (Instr.sliceAt 45 (.pointer (some ⟨b, o, none⟩)) (some (.int .i64 (l : Int))) none none).run Tryd.prog w = .ok (.slice (some ⟨b, o + l, none⟩) (64 - l) (64 - l)) w := by
  rw [run_sliceAt_array_l w _ _ arr64 .i64 _ (by omega) (by rw [len64]; omega), elem64, Tryd.sizeOf5]
  simp only [Result.andThen, slicedAt, len64, Int.toNat_natCast]
  rw [if_neg (by omega), Nat.mul_one, add_at]

theorem word_op (x0 x1 x2 x3 : UInt8) : bits .or .u32 (bits .or .u32 (bits .or .u32 ((x0.toNat : Int) % 4294967296 * 16777216 % 4294967296) ((x1.toNat : Int) % 4294967296 * 65536 % 4294967296)) ((x2.toNat : Int) % 4294967296 * 256 % 4294967296)) ((x3.toNat : Int) % 4294967296) =
    U (((x0.toUInt32 <<< 24 ||| x1.toUInt32 <<< 16) ||| x2.toUInt32 <<< 8) ||| x3.toUInt32) := by
  have hb : ∀ x : UInt8, (x.toNat : Int) % 4294967296 = U x.toUInt32 := fun x => by
    have := x.toNat_lt
    unfold U
    simp only [UInt8.toNat_toUInt32]
    omega
  have h24 := shl_u x0.toUInt32 24 (by omega)
  have h16 := shl_u x1.toUInt32 16 (by omega)
  have h8 := shl_u x2.toUInt32 8 (by omega)
  rw [show ((2 ^ 24 : Nat) : Int) = 16777216 from rfl] at h24
  rw [show ((2 ^ 16 : Nat) : Int) = 65536 from rfl] at h16
  rw [show ((2 ^ 8 : Nat) : Int) = 256 from rfl] at h8
  rw [hb, hb, hb, hb, h24, h16, h8, or_u, or_u, or_u]
  rfl
theorem s0_op (x : UInt32) : bits .xor .u32 (U (rotr x 7 ^^^ rotr x 18)) ((U x) / 8) = U (s0 x) := by
  have h := shr_u x 3 (by omega)
  rw [show ((2 ^ 3 : Nat) : Int) = 8 from rfl] at h
  rw [h, xor_u]
  rfl
theorem s1_op (x : UInt32) : bits .xor .u32 (U (rotr x 17 ^^^ rotr x 19)) ((U x) / 1024) = U (s1 x) := by
  have h := shr_u x 10 (by omega)
  rw [show ((2 ^ 10 : Nat) : Int) = 1024 from rfl] at h
  rw [h, xor_u]
  rfl
def scell (s : S8) (j : Nat) : Value := .int .u32 (U (s.get j))
theorem HashC.word {w : World} {b : Nat} {s : S8} {bs : List UInt8} {n : Nat} (h : HashC w b s bs n) (i : Nat) (hi : i < 8) : w.cell? ⟨b, 1 + i, none⟩ = some (.int .u32 (U (s.get i))) := by
  rw [(h (1 + i) (by omega)).1]
  unfold hcell
  rw [if_neg (by omega), if_pos (by omega), Nat.add_sub_cancel_left]
theorem TabOk.below {w w' : World} (h : TabOk w) (hb : Below w.heap.size w w') : TabOk w' := fun i hi => by
  have hlt := lt_of_cell (h i hi)
  exact (World.cell?_of_block (a := ⟨1, i, none⟩) (hb.block _ hlt)).trans (h i hi)
theorem scells (w : World) (s : S8) (t : TypeId) : CellsAt (w.alloc (.cells #[.int .u32 (U s.a), .int .u32 (U s.b), .int .u32 (U s.c), .int .u32 (U s.d), .int .u32 (U s.e), .int .u32 (U s.f), .int .u32 (U s.g), .int .u32 (U s.h)] t)) w.heap.size 8 (scell s) := by
  have h := cells_made w #[.int .u32 (U s.a), .int .u32 (U s.b), .int .u32 (U s.c), .int .u32 (U s.d), .int .u32 (U s.e), .int .u32 (U s.f), .int .u32 (U s.g), .int .u32 (U s.h)] t
  refine CellsAt.congr h fun j hj => ?_
  have hj' : j < 8 := hj
  match j, hj' with
  | 0, _ => rfl
  | 1, _ => rfl
  | 2, _ => rfl
  | 3, _ => rfl
  | 4, _ => rfl
  | 5, _ => rfl
  | 6, _ => rfl
  | 7, _ => rfl
def set8 (w : World) (V : Nat) (s : S8) : World :=
  ((((((((w.setCell ⟨V, 0, none⟩ (.int .u32 (U s.a))).setCell ⟨V, 1, none⟩ (.int .u32 (U s.b))).setCell ⟨V, 2, none⟩ (.int .u32 (U s.c))).setCell ⟨V, 3, none⟩ (.int .u32 (U s.d))).setCell ⟨V, 4, none⟩ (.int .u32 (U s.e))).setCell ⟨V, 5, none⟩ (.int .u32 (U s.f))).setCell ⟨V, 6, none⟩ (.int .u32 (U s.g))).setCell ⟨V, 7, none⟩ (.int .u32 (U s.h)))
theorem set8_self {w : World} {V : Nat} {f : Nat → Value} (h : CellsAt w V 8 f) (s : S8) : CellsAt (set8 w V s) V 8 (scell s) := by
  unfold set8
  refine CellsAt.congr ((((((((h.set (i := 0) (by omega) _).set (i := 1) (by omega) _).set (i := 2) (by omega) _).set (i := 3) (by omega) _).set (i := 4) (by omega) _).set (i := 5) (by omega) _).set (i := 6) (by omega) _).set (i := 7) (by omega) _) fun j hj => ?_
  match j, hj with
  | 0, _ => rfl
  | 1, _ => rfl
  | 2, _ => rfl
  | 3, _ => rfl
  | 4, _ => rfl
  | 5, _ => rfl
  | 6, _ => rfl
  | 7, _ => rfl
theorem set8_other {w : World} {V b m : Nat} {f : Nat → Value} (h : CellsAt w b m f) (hb : V ≠ b) (s : S8) : CellsAt (set8 w V s) b m f :=
  (((((((h.other hb _).other hb _).other hb _).other hb _).other hb _).other hb _).other hb _).other hb _
theorem set8_below {K V : Nat} {a w : World} (h : Below K a w) (hb : K ≤ V) (s : S8) : Below K a (set8 w V s) :=
  (((((((h.setCell (p := ⟨V, 0, none⟩) hb _).setCell (p := ⟨V, 1, none⟩) hb _).setCell (p := ⟨V, 2, none⟩) hb _).setCell (p := ⟨V, 3, none⟩) hb _).setCell (p := ⟨V, 4, none⟩) hb _).setCell (p := ⟨V, 5, none⟩) hb _).setCell (p := ⟨V, 6, none⟩) hb _).setCell (p := ⟨V, 7, none⟩) hb _
/-- The hash's cells when i words of the state are taken up. -/
def acell (s r : S8) (bs : List UInt8) (n i j : Nat) : Value := if 1 ≤ j ∧ j < 1 + i then .int .u32 (U (s.get (j - 1) + r.get (j - 1))) else hcell s bs n j
theorem acell_zero (s r : S8) (bs : List UInt8) (n j : Nat) : acell s r bs n 0 j = hcell s bs n j := by
  unfold acell
  rw [if_neg (by omega)]
theorem plus_get (s r : S8) (j : Nat) : (plus s r).get j = s.get j + r.get j := by
  match j with
  | 0 => rfl
  | 1 => rfl
  | 2 => rfl
  | 3 => rfl
  | 4 => rfl
  | 5 => rfl
  | 6 => rfl
  | _ + 7 => rfl
theorem acell_full (s r : S8) (bs : List UInt8) (n j : Nat) : acell s r bs n 8 j = hcell (plus s r) bs n j := by
  unfold acell hcell
  by_cases h0 : j = 0
  · rw [if_neg (by omega), if_pos h0, if_pos h0]
  · by_cases h9 : j < 9
    · rw [if_pos (by omega), if_neg h0, if_pos h9, plus_get]
    · rw [if_neg (by omega), if_neg h0, if_neg h0, if_neg h9, if_neg h9]
theorem acell_step {w : World} {b : Nat} {s r : S8} {bs : List UInt8} {n i : Nat} (h : CellsAt w b 74 (acell s r bs n i)) (hi : i < 8) (v : Value) (hv : v = .int .u32 (U (s.get i + r.get i))) :
    CellsAt (w.setCell ⟨b, 1 + i, none⟩ v) b 74 (acell s r bs n (i + 1)) := by
  refine (h.set (i := 1 + i) (by omega) v).congr fun j hj => ?_
  split
  · rename_i e
    subst e
    rw [hv]
    unfold acell
    rw [if_pos (by omega), Nat.add_sub_cancel_left]
  · rename_i e
    unfold acell
    by_cases h1 : 1 ≤ j ∧ j < 1 + i
    · rw [if_pos h1, if_pos (by omega)]
    · rw [if_neg h1, if_neg (by omega)]
theorem _root_.Go.Proofs.YtjhmpoekpambaaaDoor.Base.Kept.drew {T : Nat → Prop} {a w : World} (h : Kept T a w) : Kept T a w.drew := ⟨h.os, h.tape, h.output, h.size, h.block⟩
theorem ext_length (l : List UInt32) (k : Nat) : (ext l k).length = l.length + k := by
  induction k with
  | zero => rfl
  | succ k ih => simp [ext, ih]; omega

set_option maxHeartbeats 4000000 in
set_option maxRecDepth 100000 in
theorem mix_calls (w : World) (b : Nat) (s : S8) (bs : List UInt8) (n : Nat) (h : HashC w b s bs n) (hT : TabOk w) :
    Calls Tryd.prog 19 #[.pointer (some ⟨b, 0, none⟩)] w fun e w' => e = .returned (.tuple #[]) ∧ HashC w' b (mixF s bs) bs n ∧ Kept (fun i => i = b) w w' := by
  have hz := zeros w 55
  have hbz : Below w.heap.size w (w.alloc (.cells (Array.replicate 64 (.int .u32 0)) 55)) := (Below.refl _ _).alloc (Nat.le_refl _) _
  have hlt := h.lt (by omega)
  have HT := Lib.hid hT
  have HC := Lib.hid h
  have HZ := Lib.hid hz
  have HBZ := Lib.hid hbz
  clear hT h hz hbz
  unfold Array.replicate at HZ HBZ
  unfold List.replicate at HZ HBZ
  go_enter Tryd.func19, Tryd.ntmps19
  go_wp2
  go_loopw [19] (fun v wr => ∃ t : Nat, v = .int .i64 t ∧ t ≤ 16 ∧ CellsAt wr w.heap.size 64 (wcell (firsts bs t)) ∧ Below w.heap.size w wr) (fun v _ => 16 - (intOf v).toNat)
  case atStart => exact ⟨0, rfl, by omega, HZ.out, HBZ.out⟩
  case round =>
    obtain ⟨t, rfl, ht, hc, hbe⟩ := hrel
    have HCC := Lib.hid hc
    have HB := Lib.hid hbe
    clear hc hbe
    by_cases hlt2 : t < 16
    · have hh := HC.out.below HB.out
      have c0 := hh.byte (4 * t) (by omega)
      have c1 : wr.cell? ⟨b, 9 + 4 * t + 1, none⟩ = some (.int .u8 ((bs.getD (4 * t + 1) 0).toNat : Int)) := by rw [Nat.add_assoc]; exact hh.byte (4 * t + 1) (by omega)
      have c2 : wr.cell? ⟨b, 9 + 4 * t + 2, none⟩ = some (.int .u8 ((bs.getD (4 * t + 2) 0).toNat : Int)) := by rw [Nat.add_assoc]; exact hh.byte (4 * t + 2) (by omega)
      have c3 : wr.cell? ⟨b, 9 + 4 * t + 3, none⟩ = some (.int .u8 ((bs.getD (4 * t + 3) 0).toNat : Int)) := by rw [Nat.add_assoc]; exact hh.byte (4 * t + 3) (by omega)
      have hwd : word bs t = (((bs.getD (4 * t) 0).toUInt32 <<< 24 ||| (bs.getD (4 * t + 1) 0).toUInt32 <<< 16) ||| (bs.getD (4 * t + 2) 0).toUInt32 <<< 8) ||| (bs.getD (4 * t + 3) 0).toUInt32 := rfl
      have HWD := Lib.hid hwd
      have ⟨k1, k2⟩ := HCC.out t (by omega)
      have f2 : wr.drew.frozen? ⟨w.heap.size, t, none⟩ = false := k2
      have hsl := slice64 wr b 9 (4 * t) (4 * t + 4) (by omega) (by omega) (by omega)
      rw [show ((4 * t : Nat) : Int) = 4 * (t : Int) by omega, show ((4 * t + 4 : Nat) : Int) = 4 * (t : Int) + 4 by omega, Nat.add_sub_cancel_left] at hsl
      clear hh hwd k2
      generalize bs.getD (4 * t) 0 = x0 at *
      generalize bs.getD (4 * t + 1) 0 = x1 at *
      generalize bs.getD (4 * t + 2) 0 = x2 at *
      generalize bs.getD (4 * t + 3) 0 = x3 at *
      have t1 : (t : Int) < 16 := by omega
      go_wp2
      go_region
      have HV := Lib.hid ((word_op x0 x1 x2 x3).trans (by rw [← HWD.out]))
      clear hsl c0 c1 c2 c3 k1 f2
      go_wp2
      go_roundw
      case rel => exact ⟨t + 1, by go_num, by omega, by
        rw [firsts_succ]
        have := wcell_put (firsts bs t) (word bs t) HCC.out (by rw [firsts_length]; omega) _ (congrArg (Value.int IntKind.u32) HV.out)
        rw [firsts_length] at this
        exact this, (HB.out.setCell (Nat.le_refl _) _).drew⟩
      case measure => simp [intOf]; omega
    · have ht16 : t = 16 := by omega
      have hc16 := HCC.out
      rw [ht16] at hc16
      have HC16 := Lib.hid hc16
      have t1 : ¬ (t : Int) < 16 := by omega
      clear hc16 ht16 HCC
      have HR7 := Lib.hid (fun x w => right_calls x 7 (by omega) w)
      have HR18 := Lib.hid (fun x w => right_calls x 18 (by omega) w)
      have HR17 := Lib.hid (fun x w => right_calls x 17 (by omega) w)
      have HR19 := Lib.hid (fun x w => right_calls x 19 (by omega) w)
      go_wp2
      go_loopw [5] (fun v wt => ∃ t k : Nat, v = .int .i64 t ∧ t = 16 + k ∧ k ≤ 48 ∧ CellsAt wt w.heap.size 64 (wcell (ext (firsts bs 16) k)) ∧ Below w.heap.size w wt) (fun v _ => 64 - (intOf v).toNat)
      case atStart => exact ⟨16, 0, rfl, rfl, by omega, HC16.out, HB.out⟩
      case round =>
        obtain ⟨t, k, rfl, htk, hk, hc, hbe⟩ := hrel
        clear HC16 HB
        have HCC := Lib.hid hc
        have HB := Lib.hid hbe
        clear hc hbe
        have hel : (ext (firsts bs 16) k).length = 16 + k := by rw [ext_length, firsts_length]
        rw [← htk] at hel
        by_cases hlt3 : t < 64
        · have c2 := (HCC.out (t - 2) (by omega)).1
          have c7 := (HCC.out (t - 7) (by omega)).1
          have c15 := (HCC.out (t - 15) (by omega)).1
          have c16 := (HCC.out (t - 16) (by omega)).1
          have ⟨ct, ft⟩ := HCC.out t (by omega)
          have hnx : next (ext (firsts bs 16) k) = ((s1 ((ext (firsts bs 16) k).getD (t - 2) 0) + (ext (firsts bs 16) k).getD (t - 7) 0) + s0 ((ext (firsts bs 16) k).getD (t - 15) 0)) + (ext (firsts bs 16) k).getD (t - 16) 0 := by unfold next; rw [hel]
          have HNX := Lib.hid hnx
          have HTK := Lib.hid htk
          have HEL := Lib.hid hel
          have f3 : ((wr.drew).drew).drew.frozen? ⟨w.heap.size, t, none⟩ = false := ft
          clear hnx hel htk ft
          unfold wcell at c2 c7 c15 c16 ct
          generalize (ext (firsts bs 16) k).getD (t - 2) 0 = y2 at *
          generalize (ext (firsts bs 16) k).getD (t - 7) 0 = y7 at *
          generalize (ext (firsts bs 16) k).getD (t - 15) 0 = y15 at *
          generalize (ext (firsts bs 16) k).getD (t - 16) 0 = y16 at *
          have HV := Lib.hid (show U (((s1 y2 + y7) + s0 y15) + y16) = U (next (ext (firsts bs 16) k)) by rw [← HNX.out])
          have e0 := s0_op y15
          have e1 := s1_op y2
          have t1 : (t : Int) < 64 := by omega
          have t0 : (16 : Int) ≤ (t : Int) := by have := HTK.out; omega
          go_wp2
          go_quiet (first | (go_at_call_of 25 (Value.int IntKind.i64 7); exact quiet (HR7.out _ _)) | (go_at_call_of 25 (Value.int IntKind.i64 18); exact quiet (HR18.out _ _)))
          have HCC2 := Lib.hid (show CellsAt (wr.drewN nq) w.heap.size 64 (wcell (ext (firsts bs 16) k)) from HCC.out)
          have HB2 := Lib.hid (HB.out.drewN nq)
          replace c2 : (wr.drewN nq).cell? ⟨w.heap.size, t - 2, none⟩ = some (.int .u32 (U y2)) := c2
          replace c7 : (wr.drewN nq).cell? ⟨w.heap.size, t - 7, none⟩ = some (.int .u32 (U y7)) := c7
          replace c16 : (wr.drewN nq).cell? ⟨w.heap.size, t - 16, none⟩ = some (.int .u32 (U y16)) := c16
          clear c15 ct f3 HCC HB e0
          generalize wr.drewN nq = wd at *
          go_wp2
          go_quiet (first | (go_at_call_of 25 (Value.int IntKind.i64 17); exact quiet (HR17.out _ _)) | (go_at_call_of 25 (Value.int IntKind.i64 19); exact quiet (HR19.out _ _)))
          have HCC3 := Lib.hid (show CellsAt (wd.drewN nq) w.heap.size 64 (wcell (ext (firsts bs 16) k)) from HCC2.out)
          have HB3 := Lib.hid (HB2.out.drewN nq)
          replace c7 : (wd.drewN nq).cell? ⟨w.heap.size, t - 7, none⟩ = some (.int .u32 (U y7)) := c7
          replace c16 : (wd.drewN nq).cell? ⟨w.heap.size, t - 16, none⟩ = some (.int .u32 (U y16)) := c16
          clear c2 HCC2 HB2 e1
          generalize wd.drewN nq = we at *
          have ⟨ct, ft⟩ := HCC3.out t (by omega)
          replace ft : we.drew.frozen? ⟨w.heap.size, t, none⟩ = false := ft
          generalize s1 y2 = z1 at *
          generalize s0 y15 = z0 at *
          go_wp2
          go_region
          clear c7 c16 ct ft
          go_wp2
          go_roundw
          case rel => exact ⟨t + 1, k + 1, by go_num, by have := HTK.out; omega, by have := HTK.out; omega, by
            have := wcell_put (ext (firsts bs 16) k) (next (ext (firsts bs 16) k)) HCC3.out (by rw [HEL.out]; omega) _ (congrArg (Value.int IntKind.u32) HV.out)
            rw [HEL.out] at this
            exact this, (HB3.out.setCell (Nat.le_refl _) _).drew⟩
          case measure => simp [intOf]; omega
        · have hk48 : k = 48 := by omega
          have hcc48 := HCC.out
          rw [hk48] at hcc48
          have t2 : ¬ (t : Int) < 64 := by omega
          have hc : CellsAt wr w.heap.size 64 (wcell (sched bs)) := hcc48
          have hh := HC.out.below HB.out
          have c1 : wr.cell? ⟨b, 1, none⟩ = some (.int .u32 (U s.a)) := hh.word 0 (by omega)
          have c2 : wr.cell? ⟨b, 2, none⟩ = some (.int .u32 (U s.b)) := hh.word 1 (by omega)
          have c3 : wr.cell? ⟨b, 3, none⟩ = some (.int .u32 (U s.c)) := hh.word 2 (by omega)
          have c4 : wr.cell? ⟨b, 4, none⟩ = some (.int .u32 (U s.d)) := hh.word 3 (by omega)
          have c5 : wr.cell? ⟨b, 5, none⟩ = some (.int .u32 (U s.e)) := hh.word 4 (by omega)
          have c6 : wr.cell? ⟨b, 6, none⟩ = some (.int .u32 (U s.f)) := hh.word 5 (by omega)
          have c7 : wr.cell? ⟨b, 7, none⟩ = some (.int .u32 (U s.g)) := hh.word 6 (by omega)
          have c8 : wr.cell? ⟨b, 8, none⟩ = some (.int .u32 (U s.h)) := hh.word 7 (by omega)
          have hsc := scells wr s 44
          have hba : Below wr.heap.size wr (wr.alloc (.cells #[.int .u32 (U s.a), .int .u32 (U s.b), .int .u32 (U s.c), .int .u32 (U s.d), .int .u32 (U s.e), .int .u32 (U s.f), .int .u32 (U s.g), .int .u32 (U s.h)] 44)) := (Below.refl _ _).alloc (Nat.le_refl _) _
          have hWV : w.heap.size < wr.heap.size := hc.lt (by omega)
          have HSC := Lib.hid hsc
          have HCC4 := Lib.hid (CellsAt.below hc hba hWV)
          have HB4 := Lib.hid (later HB.out hba)
          clear hh hsc hba hc HCC HB HR7 HR18 HR17 HR19 hcc48 hk48 htk hel hk
          have HR6 := Lib.hid (fun x w => right_calls x 6 (by omega) w)
          have HR11 := Lib.hid (fun x w => right_calls x 11 (by omega) w)
          have HR25 := Lib.hid (fun x w => right_calls x 25 (by omega) w)
          have HR2 := Lib.hid (fun x w => right_calls x 2 (by omega) w)
          have HR13 := Lib.hid (fun x w => right_calls x 13 (by omega) w)
          have HR22 := Lib.hid (fun x w => right_calls x 22 (by omega) w)
          go_wp2
          clear c1 c2 c3 c4 c5 c6 c7 c8
          generalize wr.heap.size = V at *
          go_loopw [113] (fun v wt => ∃ t : Nat, v = .int .i64 t ∧ t ≤ 64 ∧ CellsAt wt V 8 (scell (rnds s (sched bs) t)) ∧ CellsAt wt w.heap.size 64 (wcell (sched bs)) ∧ Below w.heap.size w wt) (fun v _ => 64 - (intOf v).toNat)
          case atStart => exact ⟨0, rfl, by omega, HSC.out, HCC4.out, HB4.out⟩
          case round =>
            obtain ⟨t, rfl, ht, hsc, hcc, hbe⟩ := hrel
            clear HSC HCC4 HB4
            have HSC := Lib.hid hsc
            have HCC := Lib.hid hcc
            have HB := Lib.hid hbe
            clear hsc hcc hbe
            by_cases hlt4 : t < 64
            · have d0 := (HSC.out 0 (by omega)).1
              have d1 := (HSC.out 1 (by omega)).1
              have d2 := (HSC.out 2 (by omega)).1
              have d3 := (HSC.out 3 (by omega)).1
              have d4 := (HSC.out 4 (by omega)).1
              have d5 := (HSC.out 5 (by omega)).1
              have d6 := (HSC.out 6 (by omega)).1
              have d7 := (HSC.out 7 (by omega)).1
              have dw := (HCC.out t (by omega)).1
              have dk := (HT.out.below HB.out) t hlt4
              have hrd : rnds s (sched bs) (t + 1) = round (rnds s (sched bs) t) (Ks.getD t 0) ((sched bs).getD t 0) := rfl
              have HRD := Lib.hid hrd
              unfold wcell at dw
              unfold scell at d0 d1 d2 d3 d4 d5 d6 d7
              clear hrd
              generalize Ks.getD t 0 = kt at *
              generalize (sched bs).getD t 0 = wt at *
              generalize rnds s (sched bs) t = r at *
              obtain ⟨ra, rb, rc, rd, re, rf, rg, rh⟩ := r
              simp only [S8.get] at d0 d1 d2 d3 d4 d5 d6 d7
              have t1 : (t : Int) < 64 := by omega
              go_wp2
              go_quiet (fail)
              generalize hwd : wr.drewN nq = wd at *
              replace d0 : wd.cell? ⟨V, 0, none⟩ = some (.int .u32 (U ra)) := by rw [← hwd]; exact d0
              replace d3 : wd.cell? ⟨V, 3, none⟩ = some (.int .u32 (U rd)) := by rw [← hwd]; exact d3
              replace d7 : wd.cell? ⟨V, 7, none⟩ = some (.int .u32 (U rh)) := by rw [← hwd]; exact d7
              replace dw : wd.cell? ⟨w.heap.size, t, none⟩ = some (.int .u32 (U wt)) := by rw [← hwd]; exact dw
              replace dk : wd.cell? ⟨1, t, none⟩ = some (.int .u32 (U kt)) := by rw [← hwd]; exact dk
              clear d1 d2 d4 d5 d6
              go_wp2
              go_quiet (first | (go_at_call_of 25 (Value.int IntKind.i64 6); exact quiet (HR6.out _ _)) | (go_at_call_of 25 (Value.int IntKind.i64 11); exact quiet (HR11.out _ _)) | (go_at_call_of 25 (Value.int IntKind.i64 25); exact quiet (HR25.out _ _)))
              generalize hwe : wd.drewN nq = we at *
              replace d3 : we.cell? ⟨V, 3, none⟩ = some (.int .u32 (U rd)) := by rw [← hwe]; exact d3
              rw [add_u]
              generalize hxx : rh + (rotr re 6 ^^^ rotr re 11 ^^^ rotr re 25) + (re &&& rf ^^^ ~~~re &&& rg) + kt + wt = xx at *
              replace hxx : tx ⟨ra, rb, rc, rd, re, rf, rg, rh⟩ kt wt = xx := hxx
              have hrr : round ⟨ra, rb, rc, rd, re, rf, rg, rh⟩ kt wt = ⟨xx + ((rotr ra 2 ^^^ rotr ra 13 ^^^ rotr ra 22) + (ra &&& rb ^^^ ra &&& rc ^^^ rb &&& rc)), ra, rb, rc, rd + xx, re, rf, rg⟩ := by rw [← hxx]; rfl
              have HRR := Lib.hid hrr
              clear hrr hxx
              have HSC5 := Lib.hid (show CellsAt we V 8 (scell ⟨ra, rb, rc, rd, re, rf, rg, rh⟩) from by rw [← hwe, ← hwd]; exact HSC.out)
              have HCC5 := Lib.hid (show CellsAt we w.heap.size 64 (wcell (sched bs)) from by rw [← hwe, ← hwd]; exact HCC.out)
              have HB5 := Lib.hid (show Below w.heap.size w we from by rw [← hwe, ← hwd]; exact (HB.out.drewN _).drewN _)
              clear d0 d7 dw dk hwe hwd HSC HCC HB
              go_wp2_with fail
              refine (HR2.out _ _).mono ?_
              rintro e w3 ⟨rfl, rfl⟩
              go_wp2_with fail
              refine (HR13.out _ _).mono ?_
              rintro e w3 ⟨rfl, rfl⟩
              go_wp2_with fail
              refine (HR22.out _ _).mono ?_
              rintro e w3 ⟨rfl, rfl⟩
              have g0 : we.cell? ⟨V, 0, none⟩ = some (.int .u32 (U ra)) := (HSC5.out 0 (by omega)).1
              have q0 : we.frozen? ⟨V, 0, none⟩ = false := (HSC5.out 0 (by omega)).2
              have g1 : we.cell? ⟨V, 1, none⟩ = some (.int .u32 (U rb)) := (HSC5.out 1 (by omega)).1
              have q1 : we.frozen? ⟨V, 1, none⟩ = false := (HSC5.out 1 (by omega)).2
              have g2 : we.cell? ⟨V, 2, none⟩ = some (.int .u32 (U rc)) := (HSC5.out 2 (by omega)).1
              have q2 : we.frozen? ⟨V, 2, none⟩ = false := (HSC5.out 2 (by omega)).2
              have g3 : we.cell? ⟨V, 3, none⟩ = some (.int .u32 (U rd)) := (HSC5.out 3 (by omega)).1
              have q3 : we.frozen? ⟨V, 3, none⟩ = false := (HSC5.out 3 (by omega)).2
              have g4 : we.cell? ⟨V, 4, none⟩ = some (.int .u32 (U re)) := (HSC5.out 4 (by omega)).1
              have q4 : we.frozen? ⟨V, 4, none⟩ = false := (HSC5.out 4 (by omega)).2
              have g5 : we.cell? ⟨V, 5, none⟩ = some (.int .u32 (U rf)) := (HSC5.out 5 (by omega)).1
              have q5 : we.frozen? ⟨V, 5, none⟩ = false := (HSC5.out 5 (by omega)).2
              have g6 : we.cell? ⟨V, 6, none⟩ = some (.int .u32 (U rg)) := (HSC5.out 6 (by omega)).1
              have q6 : we.frozen? ⟨V, 6, none⟩ = false := (HSC5.out 6 (by omega)).2
              have g7 : we.cell? ⟨V, 7, none⟩ = some (.int .u32 (U rh)) := (HSC5.out 7 (by omega)).1
              have q7 : we.frozen? ⟨V, 7, none⟩ = false := (HSC5.out 7 (by omega)).2
              go_wp2
              clear d3 g0 g1 g2 g3 g4 g5 g6 g7 q0 q1 q2 q3 q4 q5 q6 q7
              have hn1 := set8_self HSC5.out ⟨xx + ((rotr ra 2 ^^^ rotr ra 13 ^^^ rotr ra 22) + (ra &&& rb ^^^ ra &&& rc ^^^ rb &&& rc)), ra, rb, rc, rd + xx, re, rf, rg⟩
              have hn2 := set8_other HCC5.out (show V ≠ w.heap.size by omega) ⟨xx + ((rotr ra 2 ^^^ rotr ra 13 ^^^ rotr ra 22) + (ra &&& rb ^^^ ra &&& rc ^^^ rb &&& rc)), ra, rb, rc, rd + xx, re, rf, rg⟩
              have hn3 := set8_below HB5.out (show w.heap.size ≤ V by omega) ⟨xx + ((rotr ra 2 ^^^ rotr ra 13 ^^^ rotr ra 22) + (ra &&& rb ^^^ ra &&& rc ^^^ rb &&& rc)), ra, rb, rc, rd + xx, re, rf, rg⟩
              have hee := HRD.out.trans HRR.out
              unfold set8 at hn1 hn2 hn3
              dsimp only at hn1 hn2 hn3
              refine ⟨⟨t + 1, by go_num, by omega, ?_, ?_, ?_⟩, by simp [intOf]; omega⟩
              · rw [hee]; exact hn1
              · exact hn2
              · exact hn3
            · have ht64 : t = 64 := by omega
              have hsc := HSC.out
              rw [ht64] at hsc
              have HSC6 := Lib.hid hsc
              have t3 : ¬ (t : Int) < 64 := by omega
              clear hsc ht64 HSC HCC ht hlt4
              have HA := Lib.hid (CellsAt.congr (HC.out.below HB.out) fun j _ => (acell_zero s (rnds s (sched bs) 64) bs n j).symm)
              have HRES := Lib.hid (show mixF s bs = plus s (rnds s (sched bs) 64) from rfl)
              have HK := Lib.hid (Kept.of_below (T := fun i => i = b) HB.out)
              clear HB HR6 HR11 HR25 HR2 HR13 HR22
              generalize rnds s (sched bs) 64 = r at *
              go_wp2
              go_loopw [191] (fun v wt => ∃ i : Nat, v = .int .i64 i ∧ i ≤ 8 ∧ CellsAt wt b 74 (acell s r bs n i) ∧ CellsAt wt V 8 (scell r) ∧ Kept (fun i => i = b) w wt) (fun v _ => 8 - (intOf v).toNat)
              case atStart => exact ⟨0, rfl, by omega, HA.out, HSC6.out, HK.out⟩
              case round =>
                obtain ⟨i, rfl, hi, ha, hr, hkp⟩ := hrel
                clear HA HSC6 HK
                have HA := Lib.hid ha
                have HR := Lib.hid hr
                have HK := Lib.hid hkp
                clear ha hr hkp
                by_cases hlt5 : i < 8
                · have c1 : wr.cell? ⟨b, 1 + i, none⟩ = some (.int .u32 (U (s.get i))) := by
                    rw [(HA.out (1 + i) (by omega)).1]
                    unfold acell hcell
                    rw [if_neg (by omega), if_neg (by omega), if_pos (by omega), Nat.add_sub_cancel_left]
                  have f1 : wr.drew.frozen? ⟨b, 1 + i, none⟩ = false := (HA.out (1 + i) (by omega)).2
                  have c2 : wr.cell? ⟨V, i, none⟩ = some (.int .u32 (U (r.get i))) := (HR.out i hlt5).1
                  have HST := Lib.hid (fun v hv => acell_step HA.out hlt5 v hv)
                  have t4 : (i : Int) < 8 := by omega
                  generalize s.get i = si at *
                  generalize r.get i = ri at *
                  go_wp2
                  go_region
                  clear c1 c2 f1
                  go_wp2
                  go_roundw
                  case rel => exact ⟨i + 1, by go_num, by omega, HST.out _ rfl, HR.out.other (show b ≠ V by omega) _, (HK.out.setCell (p := ⟨b, 1 + i, none⟩) (.inl rfl) _).drew⟩
                  case measure => simp [intOf]; omega
                · have hi8 : i = 8 := by omega
                  have t5 : ¬ (i : Int) < 8 := by omega
                  have ha := HA.out
                  rw [hi8] at ha
                  have HF := Lib.hid (show HashC wr b (plus s r) bs n from CellsAt.congr ha fun j _ => acell_full s r bs n j)
                  clear ha hi8 HA
                  go_wp2
                  go_end0
                  exact ⟨rfl, by rw [HRES.out]; exact HF.out, HK.out⟩
end Go.Proofs.YtjhmpoekpambaaaDoor.Sha
