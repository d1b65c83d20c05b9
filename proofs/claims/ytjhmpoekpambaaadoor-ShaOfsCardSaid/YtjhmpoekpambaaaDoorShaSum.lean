/-
  The walks of New, eight and Sum (layer 4).
-/
import Derived.Test.YtjhmpoekpambaaaDoorShaAdd
import Derived.Test.YtjhmpoekpambaaaDoorRepeat
import Derived.Deep.MidRow
import Derived.Deep.WholeRow
import Derived.Deep.RegionWith
open Go Go.RowKit
namespace Go.Proofs.YtjhmpoekpambaaaDoor.Sha
open Base

theorem made_hash (w : World) (t : TypeId) (C : Array Value) (hC : C = ((List.range 74).map (hcell H0 (List.replicate 64 0) 0)).toArray) : HashAt (w.alloc (.cells C t)) w.heap.size [] := by
  refine ⟨List.replicate 64 0, ?_, by simp [Tail]⟩
  have h := cells_made w C t
  have hs : C.size = 74 := by rw [hC]; simp
  rw [hs] at h
  refine CellsAt.congr h fun j hj => ?_
  rw [hC]
  simp [hj]
  rfl
theorem zeroHash (w : World) : (zeroValue 47).run Tryd.prog w = .ok (.agg #[.bool false, .int .u32 0, .int .u32 0, .int .u32 0, .int .u32 0, .int .u32 0, .int .u32 0, .int .u32 0, .int .u32 0,
    .int .u8 0, .int .u8 0, .int .u8 0, .int .u8 0, .int .u8 0, .int .u8 0, .int .u8 0, .int .u8 0, .int .u8 0, .int .u8 0, .int .u8 0, .int .u8 0, .int .u8 0, .int .u8 0, .int .u8 0, .int .u8 0,
    .int .u8 0, .int .u8 0, .int .u8 0, .int .u8 0, .int .u8 0, .int .u8 0, .int .u8 0, .int .u8 0, .int .u8 0, .int .u8 0, .int .u8 0, .int .u8 0, .int .u8 0, .int .u8 0, .int .u8 0, .int .u8 0,
    .int .u8 0, .int .u8 0, .int .u8 0, .int .u8 0, .int .u8 0, .int .u8 0, .int .u8 0, .int .u8 0, .int .u8 0, .int .u8 0, .int .u8 0, .int .u8 0, .int .u8 0, .int .u8 0, .int .u8 0, .int .u8 0,
    .int .u8 0, .int .u8 0, .int .u8 0, .int .u8 0, .int .u8 0, .int .u8 0, .int .u8 0, .int .u8 0, .int .u8 0, .int .u8 0, .int .u8 0, .int .u8 0, .int .u8 0, .int .u8 0, .int .u8 0, .int .u8 0,
    .int .u64 0]) w := by kernel_rfl
set_option maxRecDepth 100000 in
theorem New_calls (w : World) (h : StartOk w) : Calls Tryd.prog 10 #[] w fun e w' => e = .returned (.pointer (some ⟨w.heap.size, 0, none⟩)) ∧ HashAt w' w.heap.size [] ∧ Below w.heap.size w w' := by
  have c0 : w.cell? ⟨0, 0, none⟩ = some (.int .u32 (U H0.a)) := h 0 (by omega)
  have c1 : w.cell? ⟨0, 1, none⟩ = some (.int .u32 (U H0.b)) := h 1 (by omega)
  have c2 : w.cell? ⟨0, 2, none⟩ = some (.int .u32 (U H0.c)) := h 2 (by omega)
  have c3 : w.cell? ⟨0, 3, none⟩ = some (.int .u32 (U H0.d)) := h 3 (by omega)
  have c4 : w.cell? ⟨0, 4, none⟩ = some (.int .u32 (U H0.e)) := h 4 (by omega)
  have c5 : w.cell? ⟨0, 5, none⟩ = some (.int .u32 (U H0.f)) := h 5 (by omega)
  have c6 : w.cell? ⟨0, 6, none⟩ = some (.int .u32 (U H0.g)) := h 6 (by omega)
  have c7 : w.cell? ⟨0, 7, none⟩ = some (.int .u32 (U H0.h)) := h 7 (by omega)
  have HM := Lib.hid (made_hash w 47)
  have hz := zeroHash w
  clear h
  go_enter Tryd.func10, Tryd.ntmps10
  go_wp2
  go_ret
  exact ⟨rfl, HM.out _ rfl, (Below.refl _ _).alloc (Nat.le_refl _) _⟩

def eb (n i : Nat) : UInt8 := UInt8.ofNat (n / 2 ^ (56 - 8 * i))
def eightB (n : Nat) : List UInt8 := (List.range 8).map (eb n)
def ecell (n i j : Nat) : Value := .int .u8 (if j < i then ((eb n j).toNat : Int) else 0)
theorem eb_op (n i : Nat) : (n : Int) / 2 ^ (56 - 8 * i) % 256 = ((eb n i).toNat : Int) := by
  unfold eb
  rw [UInt8.toNat_ofNat']
  have : ((2 : Int) ^ (56 - 8 * i)) = ((2 ^ (56 - 8 * i) : Nat) : Int) := by simp
  rw [this]
  omega
theorem ecell_step {w : World} {b n i : Nat} (h : CellsAt w b 8 (ecell n i)) (hi : i < 8) (v : Value) (hv : v = .int .u8 ((eb n i).toNat : Int)) : CellsAt (w.setCell ⟨b, i, none⟩ v) b 8 (ecell n (i + 1)) := by
  refine (h.set hi v).congr fun j hj => ?_
  unfold ecell
  split
  · rename_i e; subst e; rw [hv, if_pos (by omega)]
  · rename_i e
    by_cases h1 : j < i
    · rw [if_pos h1, if_pos (by omega)]
    · rw [if_neg h1, if_neg (by omega)]
theorem ecell_done {w : World} {b n : Nat} (h : CellsAt w b 8 (ecell n 8)) : BytesAt w b (eightB n) := by
  intro j hj
  have hj8 : j < 8 := by simpa [eightB] using hj
  refine ⟨?_, (h j hj8).2⟩
  rw [(h j hj8).1]
  unfold ecell
  rw [if_pos hj8]
  simp [eightB]
set_option maxHeartbeats 1000000 in
set_option maxRecDepth 100000 in
theorem eight_calls (n : Nat) (w : World) : Calls Tryd.prog 21 #[.int .u64 (n : Int)] w fun e w' => e = .returned (.string (B (eightB n))) ∧ Below w.heap.size w w' := by
  go_enter Tryd.func21, Tryd.ntmps21
  go_wp2
  go_loopw [5] (fun v wr => ∃ i : Nat, v = .int .i64 i ∧ i ≤ 8 ∧ CellsAt wr w.heap.size 8 (ecell n i) ∧ Below w.heap.size w wr) (fun v _ => 8 - (intOf v).toNat)
  case atStart =>
    refine ⟨0, rfl, by omega, ?_, (Below.refl _ _).alloc (Nat.le_refl _) _⟩
    refine CellsAt.congr (cells_made w _ _) fun j hj => ?_
    have hj' : j < 8 := hj
    match j, hj' with
    | 0, _ => rfl
    | 1, _ => rfl
    | 2, _ => rfl
    | 3, _ => rfl
    | 4, _ => rfl
    | 5, _ => rfl
    | 6, _ => rfl
    | 7, _ => rfl
  case round =>
    obtain ⟨i, rfl, hi, hc, hbe⟩ := hrel
    have HC := Lib.hid hc
    have HB := Lib.hid hbe
    clear hc hbe
    by_cases hlt : i < 8
    · have t1 : (i : Int) < 8 := by omega
      have f1 := (HC.out i hlt).2
      have c1 := (HC.out i hlt).1
      have HS := Lib.hid (fun v hv => ecell_step HC.out hlt v hv)
      have e := eb_op n i
      go_wp2
      exact ⟨⟨i + 1, by go_num, by omega, HS.out _ (congrArg (Value.int .u8) rfl), HB.out.setCell (Nat.le_refl _) _⟩, by simp [intOf]; omega⟩
    · have t1 : ¬ (i : Int) < 8 := by omega
      have hi8 : i = 8 := by omega
      have hc := HC.out
      rw [hi8] at hc
      have hcv := (ecell_done hc).back (P := Tryd.prog) 35 9 5 8 8 rfl Tryd.underlying35 Tryd.underlying5 Tryd.underlying9
      clear hc hi8
      go_wp2
      go_ret
      exact ⟨rfl, HB.out⟩

/-! ### Sum -/
def nulls (s : List UInt8) : Nat := (119 - s.length % 64) % 64
def padB (s : List UInt8) : List UInt8 := [128] ++ List.replicate (nulls s) 0 ++ eightB (s.length * 8)
def outB (st : S8) (j : Nat) : UInt8 := UInt8.ofNat ((st.get (j / 4)).toNat / 2 ^ (24 - 8 * (j % 4)))
def out (st : S8) : List UInt8 := (List.range 32).map (outB st)
def digest (s : List UInt8) : List UInt8 := out (stateOf (s ++ padB s))
structure SumInv (w0 : World) (b x : Nat) (s : List UInt8) (W : World) : Prop where
  c73 : W.cell? ⟨b, 73, none⟩ = some (.int .u64 (s.length : Int))
  hash : HashAt W x s
  tab : TabOk W
  low : w0.heap.size ≤ x
  below : Below w0.heap.size w0 W
theorem SumInv.next {w0 W W' : World} {b x : Nat} {s : List UInt8} (h : SumInv w0 b x s W) (hb : Below W.heap.size W W') : SumInv w0 b x s W' :=
  ⟨(World.cell?_of_block (a := ⟨b, 73, none⟩) (hb.block b (lt_of_cell h.c73))).trans h.c73, h.hash.below hb, h.tab.below hb, h.low, later h.below hb⟩
theorem SumInv.drew {w0 W : World} {b x : Nat} {s : List UInt8} (h : SumInv w0 b x s W) : SumInv w0 b x s W.drew := h.next ((Below.refl _ _).drew)
theorem copy_made (w : World) (f : Nat → Value) (t : TypeId) (C : Array Value) (hC : C = ((List.range 74).map f).toArray) : CellsAt (w.alloc (.cells C t)) w.heap.size 74 f := by
  have h := cells_made w C t
  have hs : C.size = 74 := by rw [hC]; simp
  rw [hs] at h
  refine CellsAt.congr h fun j hj => ?_
  rw [hC]
  simp [hj]

theorem hcell_one (st : S8) (bs : List UInt8) (n k : Nat) : (hcell st bs n k).oneCell' = true := by
  unfold hcell
  split
  · rfl
  · split
    · rfl
    · split <;> rfl
theorem repeat_zero (q : Nat) : Lib.repeatL [0] q = List.replicate q (0 : UInt8) := by
  induction q with
  | zero => rfl
  | succ q ih =>
    simp [Lib.repeatL, List.replicate_succ]
    exact ih
def zero32 : List Value := [.int .u8 0, .int .u8 0, .int .u8 0, .int .u8 0, .int .u8 0, .int .u8 0, .int .u8 0, .int .u8 0, .int .u8 0, .int .u8 0, .int .u8 0, .int .u8 0, .int .u8 0, .int .u8 0, .int .u8 0, .int .u8 0,
  .int .u8 0, .int .u8 0, .int .u8 0, .int .u8 0, .int .u8 0, .int .u8 0, .int .u8 0, .int .u8 0, .int .u8 0, .int .u8 0, .int .u8 0, .int .u8 0, .int .u8 0, .int .u8 0, .int .u8 0, .int .u8 0]
def ocell (st : S8) (i j : Nat) : Value := .int .u8 (if j < 4 * i then ((outB st j).toNat : Int) else 0)
theorem ocell_zero (w : World) (st : S8) (t : TypeId) : CellsAt (w.alloc (.cells (Array.mk zero32) t)) w.heap.size 32 (ocell st 0) := by
  rw [show Array.mk zero32 = Array.replicate 32 (.int .u8 0) from rfl]
  have h := cells_made w (Array.replicate 32 (.int .u8 0)) t
  rw [Array.size_replicate] at h
  exact h.congr fun j hj => by simp [ocell, hj]
theorem ob0 (st : S8) (i : Nat) : U (st.get i) / 16777216 % 256 = ((outB st (4 * i)).toNat : Int) := by
  unfold outB U
  rw [UInt8.toNat_ofNat', show 4 * i / 4 = i by omega, show 24 - 8 * (4 * i % 4) = 24 by omega]
  omega
theorem ob1 (st : S8) (i : Nat) : U (st.get i) / 65536 % 256 = ((outB st (4 * i + 1)).toNat : Int) := by
  unfold outB U
  rw [UInt8.toNat_ofNat', show (4 * i + 1) / 4 = i by omega, show 24 - 8 * ((4 * i + 1) % 4) = 16 by omega]
  omega
theorem ob2 (st : S8) (i : Nat) : U (st.get i) / 256 % 256 = ((outB st (4 * i + 2)).toNat : Int) := by
  unfold outB U
  rw [UInt8.toNat_ofNat', show (4 * i + 2) / 4 = i by omega, show 24 - 8 * ((4 * i + 2) % 4) = 8 by omega]
  omega
theorem ob3 (st : S8) (i : Nat) : U (st.get i) % 256 = ((outB st (4 * i + 3)).toNat : Int) := by
  unfold outB U
  rw [UInt8.toNat_ofNat', show (4 * i + 3) / 4 = i by omega, show 24 - 8 * ((4 * i + 3) % 4) = 0 by omega]
  omega
theorem ocell_step {w : World} {b : Nat} {st : S8} {i : Nat} (h : CellsAt w b 32 (ocell st i)) (hi : i < 8) :
    CellsAt ((((w.setCell ⟨b, 4 * i, none⟩ (.int .u8 (U (st.get i) / 16777216 % 256))).setCell ⟨b, 4 * i + 1, none⟩ (.int .u8 (U (st.get i) / 65536 % 256))).setCell ⟨b, 4 * i + 2, none⟩ (.int .u8 (U (st.get i) / 256 % 256))).setCell ⟨b, 4 * i + 3, none⟩ (.int .u8 (U (st.get i) % 256))) b 32 (ocell st (i + 1)) := by
  rw [ob0, ob1, ob2, ob3]
  refine CellsAt.congr ((((h.set (i := 4 * i) (by omega) _).set (i := 4 * i + 1) (by omega) _).set (i := 4 * i + 2) (by omega) _).set (i := 4 * i + 3) (by omega) _) fun j hj => ?_
  unfold ocell
  by_cases h3 : j = 4 * i + 3
  · rw [if_pos h3, if_pos (by omega), h3]
  · rw [if_neg h3]
    by_cases h2 : j = 4 * i + 2
    · rw [if_pos h2, if_pos (by omega), h2]
    · rw [if_neg h2]
      by_cases h1 : j = 4 * i + 1
      · rw [if_pos h1, if_pos (by omega), h1]
      · rw [if_neg h1]
        by_cases h0 : j = 4 * i
        · rw [if_pos h0, if_pos (by omega), h0]
        · rw [if_neg h0]
          by_cases hlt : j < 4 * i
          · rw [if_pos hlt, if_pos (by omega)]
          · rw [if_neg hlt, if_neg (by omega)]
theorem ocell_done {w : World} {b : Nat} {st : S8} (h : CellsAt w b 32 (ocell st 8)) : BytesAt w b (out st) := by
  intro j hj
  have hj8 : j < 32 := by simpa [out] using hj
  refine ⟨?_, (h j hj8).2⟩
  rw [(h j hj8).1]
  unfold ocell
  rw [if_pos (by omega)]
  simp [out]
theorem index8_0 (wr : World) (st : S8) : (Instr.index 44 (.agg #[.int .u32 (U st.a), .int .u32 (U st.b), .int .u32 (U st.c), .int .u32 (U st.d), .int .u32 (U st.e), .int .u32 (U st.f), .int .u32 (U st.g), .int .u32 (U st.h)]) (.int .i64 0)).run Tryd.prog wr = .ok (.int .u32 (U st.a)) wr := by kernel_rfl
theorem index8_1 (wr : World) (st : S8) : (Instr.index 44 (.agg #[.int .u32 (U st.a), .int .u32 (U st.b), .int .u32 (U st.c), .int .u32 (U st.d), .int .u32 (U st.e), .int .u32 (U st.f), .int .u32 (U st.g), .int .u32 (U st.h)]) (.int .i64 1)).run Tryd.prog wr = .ok (.int .u32 (U st.b)) wr := by kernel_rfl
theorem index8_2 (wr : World) (st : S8) : (Instr.index 44 (.agg #[.int .u32 (U st.a), .int .u32 (U st.b), .int .u32 (U st.c), .int .u32 (U st.d), .int .u32 (U st.e), .int .u32 (U st.f), .int .u32 (U st.g), .int .u32 (U st.h)]) (.int .i64 2)).run Tryd.prog wr = .ok (.int .u32 (U st.c)) wr := by kernel_rfl
theorem index8_3 (wr : World) (st : S8) : (Instr.index 44 (.agg #[.int .u32 (U st.a), .int .u32 (U st.b), .int .u32 (U st.c), .int .u32 (U st.d), .int .u32 (U st.e), .int .u32 (U st.f), .int .u32 (U st.g), .int .u32 (U st.h)]) (.int .i64 3)).run Tryd.prog wr = .ok (.int .u32 (U st.d)) wr := by kernel_rfl
theorem index8_4 (wr : World) (st : S8) : (Instr.index 44 (.agg #[.int .u32 (U st.a), .int .u32 (U st.b), .int .u32 (U st.c), .int .u32 (U st.d), .int .u32 (U st.e), .int .u32 (U st.f), .int .u32 (U st.g), .int .u32 (U st.h)]) (.int .i64 4)).run Tryd.prog wr = .ok (.int .u32 (U st.e)) wr := by kernel_rfl
theorem index8_5 (wr : World) (st : S8) : (Instr.index 44 (.agg #[.int .u32 (U st.a), .int .u32 (U st.b), .int .u32 (U st.c), .int .u32 (U st.d), .int .u32 (U st.e), .int .u32 (U st.f), .int .u32 (U st.g), .int .u32 (U st.h)]) (.int .i64 5)).run Tryd.prog wr = .ok (.int .u32 (U st.f)) wr := by kernel_rfl
theorem index8_6 (wr : World) (st : S8) : (Instr.index 44 (.agg #[.int .u32 (U st.a), .int .u32 (U st.b), .int .u32 (U st.c), .int .u32 (U st.d), .int .u32 (U st.e), .int .u32 (U st.f), .int .u32 (U st.g), .int .u32 (U st.h)]) (.int .i64 6)).run Tryd.prog wr = .ok (.int .u32 (U st.g)) wr := by kernel_rfl
theorem index8_7 (wr : World) (st : S8) : (Instr.index 44 (.agg #[.int .u32 (U st.a), .int .u32 (U st.b), .int .u32 (U st.c), .int .u32 (U st.d), .int .u32 (U st.e), .int .u32 (U st.f), .int .u32 (U st.g), .int .u32 (U st.h)]) (.int .i64 7)).run Tryd.prog wr = .ok (.int .u32 (U st.h)) wr := by kernel_rfl
theorem infoHash : (Tryd.prog.info? 47).map (·.size) = some 74 := by kernel_rfl

set_option maxHeartbeats 4000000 in
set_option maxRecDepth 100000 in
theorem Sum_calls (w : World) (b : Nat) (s : List UInt8) (h : HashAt w b s) (hT : TabOk w) (hlen : s.length < 576460752303423488) :
    Calls Tryd.prog 12 #[.pointer (some ⟨b, 0, none⟩)] w fun e w' => e = .returned (.string (B (digest s))) ∧ Below w.heap.size w w' := by
  have HM := Lib.hid (there_calls w b h.made)
  obtain ⟨bs, hc, ht⟩ := h
  have hnot : 1 < w.heap.size := lt_of_cell (hT 0 (by omega))
  obtain ⟨C, hC⟩ : ∃ C : Array Value, C = ((List.range 74).map (hcell (stateOf s) bs s.length)).toArray := ⟨_, rfl⟩
  have hCs : C.size = 74 := by rw [hC]; simp
  have hC1 : C.all (·.oneCell') = true := by
    rw [hC, Array.all_eq_true]
    intro i hi
    simp
    exact hcell_one _ _ _ _
  have hrange : w.rangeAt b 0 C.toList := by
    intro j v hv
    rw [hC] at hv
    rw [List.toList_toArray, List.getElem?_map, Option.map_eq_some_iff] at hv
    obtain ⟨q, hq, rfl⟩ := hv
    obtain ⟨hj, rfl⟩ := List.getElem?_eq_some_iff.1 hq
    rw [List.getElem_range, Nat.zero_add]
    exact (hc j (by simpa using hj)).1
  have hir : (Tryd.prog.info? 47).map (·.size) = some C.toList.length := by rw [infoHash, Array.length_toList, hCs]
  have HRG := Lib.hid hrange
  have HIR := Lib.hid hir
  have c73 : w.cell? ⟨b, 73, none⟩ = some (.int .u64 (s.length : Int)) := hc.size
  have hcm := copy_made w (hcell (stateOf s) bs s.length) 47 C hC
  have hba : Below w.heap.size w (w.alloc (.cells C 47)) := (Below.refl _ _).alloc (Nat.le_refl _) _
  have HINV : Hid (SumInv w b w.heap.size s (w.alloc (.cells C 47))) := Lib.hid
    ⟨(World.cell?_of_block (a := ⟨b, 73, none⟩) (hba.block b (lt_of_cell c73))).trans c73, ⟨bs, hcm, ht⟩, hT.below hba, Nat.le_refl _, hba⟩
  obtain ⟨Z, hZ, hZs⟩ : ∃ Z : Array Value, (∀ w, (zeroValue 47).run Tryd.prog w = .ok (.agg Z) w) ∧ Z.size = 74 := ⟨_, zeroHash, by simp⟩
  have hst := run_storeAt_new (P := Tryd.prog) w 47 Z C (by rw [infoHash, hCs]) (by rw [hZs, hCs]) hC1
  have hst2 := run_storeCells_new (P := Tryd.prog) w 47 Z C (by rw [infoHash, hCs]) (by rw [hZs, hCs]) hC1
  obtain ⟨N, hN⟩ : ∃ N, N = s.length := ⟨_, rfl⟩
  rw [← hN] at c73 hlen
  have HNN := Lib.hid hN
  have hz := hZ w
  have c73x := HINV.out.c73
  rw [← hN] at c73x
  obtain ⟨a, ha⟩ : ∃ a, a = N % 64 := ⟨_, rfl⟩
  have ha64 : a < 64 := by omega
  have hmod : (N : Int) % 64 = (a : Int) := by omega
  obtain ⟨q, hq⟩ : ∃ q, q = (119 - a) % 64 := ⟨_, rfl⟩
  have hq64 : q < 64 := by omega
  have hqm : ((119 : Int) - (a : Int)) % 64 = (q : Int) := by omega
  have HQ := Lib.hid (show q = nulls s by rw [hq, ha, hN]; rfl)
  clear hN hC hrange hir hc ht hcm hba hT hC1 hZ hZs ha hq
  go_enter Tryd.func12, Tryd.ntmps12
  go_wp2_with fail
  refine HM.out.mono ?_
  rintro e w1 ⟨rfl, rfl⟩
  clear HM
  go_wp2_with (refine wpList_load_mid rfl 47 _ rfl b 0 rfl C.toList _ HRG.out Tryd.underlying47 rfl HIR.out ?_)
  rw [hqm]
  clear hqm hmod c73 c73x hst hst2 hz
  have hrep : ∀ W, SumInv w b w.heap.size s W → Calls Tryd.prog 20 #[.string ⟨#[0]⟩, .int .i64 (q : Int)] W fun e w' => e = .returned (.string (B (List.replicate q 0))) ∧ SumInv w b w.heap.size s w' := fun W hI => by
    refine (Rep.Repeat ⟨#[0]⟩ q W (by omega) (by show 1 * q ≤ _; omega)).mono ?_
    rintro e w' ⟨rfl, hb⟩
    exact ⟨by rw [show (⟨(Lib.repeatL ((⟨#[0]⟩ : ByteArray)).data.toList q).toArray⟩ : ByteArray) = B (List.replicate q 0) from congrArg B (repeat_zero q)], hI.next hb⟩
  have height : ∀ W, SumInv w b w.heap.size s W → Calls Tryd.prog 21 #[.int .u64 ((N : Int) * 8)] W fun e w' => e = .returned (.string (B (eightB (N * 8)))) ∧ SumInv w b w.heap.size s w' := fun W hI => by
    have h := eight_calls (N * 8) W
    rw [show ((N * 8 : Nat) : Int) = (N : Int) * 8 by omega] at h
    exact h.mono fun e w' ⟨he, hb⟩ => ⟨he, hI.next hb⟩
  have hadd : ∀ W y, y = padB s → SumInv w b w.heap.size s W → Calls Tryd.prog 11 #[.pointer (some ⟨w.heap.size, 0, none⟩), .string (B y)] W fun e w' => e = .returned (.tuple #[]) ∧ HashAt w' w.heap.size (s ++ padB s) ∧ Below w.heap.size w w' := fun W y hy hI => by
    subst hy
    have hns := HNN.out
    refine (Add_calls W w.heap.size s (padB s) hI.hash hI.tab (by have : 1 < w.heap.size := hnot; omega) ?_).mono ?_
    · have h1 : (padB s).length < 1000 := by
        have : nulls s < 64 := by unfold nulls; omega
        simp [padB, eightB]; omega
      omega
    · rintro e w' ⟨he, hh, hk⟩
      refine ⟨he, hh, ?_⟩
      have h2 := hI.below
      exact h2.trans (hk.below (fun i hi => by rw [hi]; exact Nat.le_refl _) h2.size)
  have HREP := Lib.hid hrep
  have HEI := Lib.hid height
  have HADD := Lib.hid hadd
  have hpad : ({ data := #[128] } : ByteArray) ++ B (List.replicate q (0 : UInt8)) = B (128 :: List.replicate q (0 : UInt8)) := B_append [128] (List.replicate q (0 : UInt8))
  have HPD := Lib.hid (show padB s = 128 :: (List.replicate q 0 ++ eightB (N * 8)) by unfold padB; rw [← HNN.out, HQ.out]; rfl)
  clear hrep height hadd HRG HIR HQ hnot hCs Z
  have hI0 := HINV.out.drew
  have c73 := HINV.out.c73
  rw [← HNN.out] at c73
  generalize w.alloc (.cells C 47) = w1 at *
  have hw8 : IntKind.u64.wrap ((N : Int) * 8) = (N : Int) * 8 := by
    unfold IntKind.wrap
    simp [IntKind.signed, IntKind.bits]
    omega
  have hez : (eightB (N * 8)).length = 8 := by simp [eightB]
  have hzs : (List.replicate q (0 : UInt8)).length < 64 := by simp; omega
  generalize eightB (N * 8) = ez at *
  generalize List.replicate q (0 : UInt8) = zs at *
  go_region_with (first
    | (go_at_call 20; refine (HREP.out _ ?_).mono ?_; assumption; rintro e w2 ⟨rfl, hI⟩; have c73a := hI.c73; rw [← HNN.out] at c73a)
    | (go_at_call 21; refine (HEI.out _ ?_).mono ?_; assumption; rintro e w2 ⟨rfl, hI⟩; have c73a := hI.c73; rw [← HNN.out] at c73a)
    | (go_at_call 11; refine (HADD.out _ _ HPD.out.symm ?_).mono ?_; assumption; rintro e w9 ⟨rfl, hh9, hb9⟩))
  all_goals
    obtain ⟨bs2, hc9, -⟩ := hh9
    have HDG := Lib.hid (show digest s = out (stateOf (s ++ padB s)) from rfl)
    generalize stateOf (s ++ padB s) = st at *
    have hba : Below w9.heap.size w9 (w9.alloc (.cells (Array.mk zero32) 50)) := (Below.refl _ _).alloc (Nat.le_refl _) _
    have hh10 := hc9.below hba
    have HO := Lib.hid (ocell_zero w9 st 50)
    have HB10 := Lib.hid (later hb9 hba)
    have hlo : w.heap.size ≤ w9.heap.size := hb9.size
    have HWN := Lib.hid hlo
    have c1 : (w9.alloc (.cells (Array.mk zero32) 50)).cell? ⟨w.heap.size, 1, none⟩ = some (.int .u32 (U st.a)) := hh10.word 0 (by omega)
    have c2 : (w9.alloc (.cells (Array.mk zero32) 50)).cell? ⟨w.heap.size, 2, none⟩ = some (.int .u32 (U st.b)) := hh10.word 1 (by omega)
    have c3 : (w9.alloc (.cells (Array.mk zero32) 50)).cell? ⟨w.heap.size, 3, none⟩ = some (.int .u32 (U st.c)) := hh10.word 2 (by omega)
    have c4 : (w9.alloc (.cells (Array.mk zero32) 50)).cell? ⟨w.heap.size, 4, none⟩ = some (.int .u32 (U st.d)) := hh10.word 3 (by omega)
    have c5 : (w9.alloc (.cells (Array.mk zero32) 50)).cell? ⟨w.heap.size, 5, none⟩ = some (.int .u32 (U st.e)) := hh10.word 4 (by omega)
    have c6 : (w9.alloc (.cells (Array.mk zero32) 50)).cell? ⟨w.heap.size, 6, none⟩ = some (.int .u32 (U st.f)) := hh10.word 5 (by omega)
    have c7 : (w9.alloc (.cells (Array.mk zero32) 50)).cell? ⟨w.heap.size, 7, none⟩ = some (.int .u32 (U st.g)) := hh10.word 6 (by omega)
    have c8 : (w9.alloc (.cells (Array.mk zero32) 50)).cell? ⟨w.heap.size, 8, none⟩ = some (.int .u32 (U st.h)) := hh10.word 7 (by omega)
    unfold zero32 at *
    clear hh10 hba hc9 hlo hb9 HREP HEI HADD HPD hpad c73 hI0 HINV
    go_wp2
    clear c1 c2 c3 c4 c5 c6 c7 c8
    go_loopw [35] (fun v wt => ∃ i : Nat, v = .int .i64 i ∧ i ≤ 8 ∧ CellsAt wt w9.heap.size 32 (ocell st i) ∧ Below w.heap.size w wt) (fun v _ => 8 - (intOf v).toNat)
    case atStart => exact ⟨0, rfl, by omega, HO.out, HB10.out⟩
    case round =>
      obtain ⟨i, rfl, hi, hc, hbe⟩ := hrel
      clear HO HB10
      have HO := Lib.hid hc
      have HB := Lib.hid hbe
      clear hc hbe
      by_cases hlt : i < 8
      · have hcase : i = 0 ∨ i = 1 ∨ i = 2 ∨ i = 3 ∨ i = 4 ∨ i = 5 ∨ i = 6 ∨ i = 7 := by omega
        clear hi hlt
        rcases hcase with rfl | rfl | rfl | rfl | rfl | rfl | rfl | rfl
        · have hst := ocell_step HO.out (show 0 < 8 by omega)
          have hix : (Instr.index 44 (.agg #[.int .u32 (U st.a), .int .u32 (U st.b), .int .u32 (U st.c), .int .u32 (U st.d), .int .u32 (U st.e), .int .u32 (U st.f), .int .u32 (U st.g), .int .u32 (U st.h)]) (.int .i64 0)).run Tryd.prog wr = .ok (.int .u32 (U st.a)) wr := index8_0 wr st
          have g0 : wr.cell? ⟨w9.heap.size, 0, none⟩ = some (ocell st 0 0) := (HO.out 0 (by omega)).1
          have f0 : wr.frozen? ⟨w9.heap.size, 0, none⟩ = false := (HO.out 0 (by omega)).2
          have g1 : wr.cell? ⟨w9.heap.size, 1, none⟩ = some (ocell st 0 1) := (HO.out 1 (by omega)).1
          have f1 : wr.frozen? ⟨w9.heap.size, 1, none⟩ = false := (HO.out 1 (by omega)).2
          have g2 : wr.cell? ⟨w9.heap.size, 2, none⟩ = some (ocell st 0 2) := (HO.out 2 (by omega)).1
          have f2 : wr.frozen? ⟨w9.heap.size, 2, none⟩ = false := (HO.out 2 (by omega)).2
          have g3 : wr.cell? ⟨w9.heap.size, 3, none⟩ = some (ocell st 0 3) := (HO.out 3 (by omega)).1
          have f3 : wr.frozen? ⟨w9.heap.size, 3, none⟩ = false := (HO.out 3 (by omega)).2
          have HST := Lib.hid hst
          have HB2 := Lib.hid ((((HB.out.setCell (p := ⟨w9.heap.size, 0, none⟩) HWN.out (.int .u8 (U st.a / 16777216 % 256))).setCell (p := ⟨w9.heap.size, 1, none⟩) HWN.out (.int .u8 (U st.a / 65536 % 256))).setCell (p := ⟨w9.heap.size, 2, none⟩) HWN.out (.int .u8 (U st.a / 256 % 256))).setCell (p := ⟨w9.heap.size, 3, none⟩) HWN.out (.int .u8 (U st.a % 256)))
          clear hst HO HB
          go_wp2
          exact ⟨⟨1, by go_num, by omega, HST.out, HB2.out⟩, by simp [intOf]⟩
        · have hst := ocell_step HO.out (show 1 < 8 by omega)
          have hix : (Instr.index 44 (.agg #[.int .u32 (U st.a), .int .u32 (U st.b), .int .u32 (U st.c), .int .u32 (U st.d), .int .u32 (U st.e), .int .u32 (U st.f), .int .u32 (U st.g), .int .u32 (U st.h)]) (.int .i64 1)).run Tryd.prog wr = .ok (.int .u32 (U st.b)) wr := index8_1 wr st
          have g0 : wr.cell? ⟨w9.heap.size, 4, none⟩ = some (ocell st 1 4) := (HO.out 4 (by omega)).1
          have f0 : wr.frozen? ⟨w9.heap.size, 4, none⟩ = false := (HO.out 4 (by omega)).2
          have g1 : wr.cell? ⟨w9.heap.size, 5, none⟩ = some (ocell st 1 5) := (HO.out 5 (by omega)).1
          have f1 : wr.frozen? ⟨w9.heap.size, 5, none⟩ = false := (HO.out 5 (by omega)).2
          have g2 : wr.cell? ⟨w9.heap.size, 6, none⟩ = some (ocell st 1 6) := (HO.out 6 (by omega)).1
          have f2 : wr.frozen? ⟨w9.heap.size, 6, none⟩ = false := (HO.out 6 (by omega)).2
          have g3 : wr.cell? ⟨w9.heap.size, 7, none⟩ = some (ocell st 1 7) := (HO.out 7 (by omega)).1
          have f3 : wr.frozen? ⟨w9.heap.size, 7, none⟩ = false := (HO.out 7 (by omega)).2
          have HST := Lib.hid hst
          have HB2 := Lib.hid ((((HB.out.setCell (p := ⟨w9.heap.size, 4, none⟩) HWN.out (.int .u8 (U st.b / 16777216 % 256))).setCell (p := ⟨w9.heap.size, 5, none⟩) HWN.out (.int .u8 (U st.b / 65536 % 256))).setCell (p := ⟨w9.heap.size, 6, none⟩) HWN.out (.int .u8 (U st.b / 256 % 256))).setCell (p := ⟨w9.heap.size, 7, none⟩) HWN.out (.int .u8 (U st.b % 256)))
          clear hst HO HB
          go_wp2
          exact ⟨⟨2, by go_num, by omega, HST.out, HB2.out⟩, by simp [intOf]⟩
        · have hst := ocell_step HO.out (show 2 < 8 by omega)
          have hix : (Instr.index 44 (.agg #[.int .u32 (U st.a), .int .u32 (U st.b), .int .u32 (U st.c), .int .u32 (U st.d), .int .u32 (U st.e), .int .u32 (U st.f), .int .u32 (U st.g), .int .u32 (U st.h)]) (.int .i64 2)).run Tryd.prog wr = .ok (.int .u32 (U st.c)) wr := index8_2 wr st
          have g0 : wr.cell? ⟨w9.heap.size, 8, none⟩ = some (ocell st 2 8) := (HO.out 8 (by omega)).1
          have f0 : wr.frozen? ⟨w9.heap.size, 8, none⟩ = false := (HO.out 8 (by omega)).2
          have g1 : wr.cell? ⟨w9.heap.size, 9, none⟩ = some (ocell st 2 9) := (HO.out 9 (by omega)).1
          have f1 : wr.frozen? ⟨w9.heap.size, 9, none⟩ = false := (HO.out 9 (by omega)).2
          have g2 : wr.cell? ⟨w9.heap.size, 10, none⟩ = some (ocell st 2 10) := (HO.out 10 (by omega)).1
          have f2 : wr.frozen? ⟨w9.heap.size, 10, none⟩ = false := (HO.out 10 (by omega)).2
          have g3 : wr.cell? ⟨w9.heap.size, 11, none⟩ = some (ocell st 2 11) := (HO.out 11 (by omega)).1
          have f3 : wr.frozen? ⟨w9.heap.size, 11, none⟩ = false := (HO.out 11 (by omega)).2
          have HST := Lib.hid hst
          have HB2 := Lib.hid ((((HB.out.setCell (p := ⟨w9.heap.size, 8, none⟩) HWN.out (.int .u8 (U st.c / 16777216 % 256))).setCell (p := ⟨w9.heap.size, 9, none⟩) HWN.out (.int .u8 (U st.c / 65536 % 256))).setCell (p := ⟨w9.heap.size, 10, none⟩) HWN.out (.int .u8 (U st.c / 256 % 256))).setCell (p := ⟨w9.heap.size, 11, none⟩) HWN.out (.int .u8 (U st.c % 256)))
          clear hst HO HB
          go_wp2
          exact ⟨⟨3, by go_num, by omega, HST.out, HB2.out⟩, by simp [intOf]⟩
        · have hst := ocell_step HO.out (show 3 < 8 by omega)
          have hix : (Instr.index 44 (.agg #[.int .u32 (U st.a), .int .u32 (U st.b), .int .u32 (U st.c), .int .u32 (U st.d), .int .u32 (U st.e), .int .u32 (U st.f), .int .u32 (U st.g), .int .u32 (U st.h)]) (.int .i64 3)).run Tryd.prog wr = .ok (.int .u32 (U st.d)) wr := index8_3 wr st
          have g0 : wr.cell? ⟨w9.heap.size, 12, none⟩ = some (ocell st 3 12) := (HO.out 12 (by omega)).1
          have f0 : wr.frozen? ⟨w9.heap.size, 12, none⟩ = false := (HO.out 12 (by omega)).2
          have g1 : wr.cell? ⟨w9.heap.size, 13, none⟩ = some (ocell st 3 13) := (HO.out 13 (by omega)).1
          have f1 : wr.frozen? ⟨w9.heap.size, 13, none⟩ = false := (HO.out 13 (by omega)).2
          have g2 : wr.cell? ⟨w9.heap.size, 14, none⟩ = some (ocell st 3 14) := (HO.out 14 (by omega)).1
          have f2 : wr.frozen? ⟨w9.heap.size, 14, none⟩ = false := (HO.out 14 (by omega)).2
          have g3 : wr.cell? ⟨w9.heap.size, 15, none⟩ = some (ocell st 3 15) := (HO.out 15 (by omega)).1
          have f3 : wr.frozen? ⟨w9.heap.size, 15, none⟩ = false := (HO.out 15 (by omega)).2
          have HST := Lib.hid hst
          have HB2 := Lib.hid ((((HB.out.setCell (p := ⟨w9.heap.size, 12, none⟩) HWN.out (.int .u8 (U st.d / 16777216 % 256))).setCell (p := ⟨w9.heap.size, 13, none⟩) HWN.out (.int .u8 (U st.d / 65536 % 256))).setCell (p := ⟨w9.heap.size, 14, none⟩) HWN.out (.int .u8 (U st.d / 256 % 256))).setCell (p := ⟨w9.heap.size, 15, none⟩) HWN.out (.int .u8 (U st.d % 256)))
          clear hst HO HB
          go_wp2
          exact ⟨⟨4, by go_num, by omega, HST.out, HB2.out⟩, by simp [intOf]⟩
        · have hst := ocell_step HO.out (show 4 < 8 by omega)
          have hix : (Instr.index 44 (.agg #[.int .u32 (U st.a), .int .u32 (U st.b), .int .u32 (U st.c), .int .u32 (U st.d), .int .u32 (U st.e), .int .u32 (U st.f), .int .u32 (U st.g), .int .u32 (U st.h)]) (.int .i64 4)).run Tryd.prog wr = .ok (.int .u32 (U st.e)) wr := index8_4 wr st
          have g0 : wr.cell? ⟨w9.heap.size, 16, none⟩ = some (ocell st 4 16) := (HO.out 16 (by omega)).1
          have f0 : wr.frozen? ⟨w9.heap.size, 16, none⟩ = false := (HO.out 16 (by omega)).2
          have g1 : wr.cell? ⟨w9.heap.size, 17, none⟩ = some (ocell st 4 17) := (HO.out 17 (by omega)).1
          have f1 : wr.frozen? ⟨w9.heap.size, 17, none⟩ = false := (HO.out 17 (by omega)).2
          have g2 : wr.cell? ⟨w9.heap.size, 18, none⟩ = some (ocell st 4 18) := (HO.out 18 (by omega)).1
          have f2 : wr.frozen? ⟨w9.heap.size, 18, none⟩ = false := (HO.out 18 (by omega)).2
          have g3 : wr.cell? ⟨w9.heap.size, 19, none⟩ = some (ocell st 4 19) := (HO.out 19 (by omega)).1
          have f3 : wr.frozen? ⟨w9.heap.size, 19, none⟩ = false := (HO.out 19 (by omega)).2
          have HST := Lib.hid hst
          have HB2 := Lib.hid ((((HB.out.setCell (p := ⟨w9.heap.size, 16, none⟩) HWN.out (.int .u8 (U st.e / 16777216 % 256))).setCell (p := ⟨w9.heap.size, 17, none⟩) HWN.out (.int .u8 (U st.e / 65536 % 256))).setCell (p := ⟨w9.heap.size, 18, none⟩) HWN.out (.int .u8 (U st.e / 256 % 256))).setCell (p := ⟨w9.heap.size, 19, none⟩) HWN.out (.int .u8 (U st.e % 256)))
          clear hst HO HB
          go_wp2
          exact ⟨⟨5, by go_num, by omega, HST.out, HB2.out⟩, by simp [intOf]⟩
        · have hst := ocell_step HO.out (show 5 < 8 by omega)
          have hix : (Instr.index 44 (.agg #[.int .u32 (U st.a), .int .u32 (U st.b), .int .u32 (U st.c), .int .u32 (U st.d), .int .u32 (U st.e), .int .u32 (U st.f), .int .u32 (U st.g), .int .u32 (U st.h)]) (.int .i64 5)).run Tryd.prog wr = .ok (.int .u32 (U st.f)) wr := index8_5 wr st
          have g0 : wr.cell? ⟨w9.heap.size, 20, none⟩ = some (ocell st 5 20) := (HO.out 20 (by omega)).1
          have f0 : wr.frozen? ⟨w9.heap.size, 20, none⟩ = false := (HO.out 20 (by omega)).2
          have g1 : wr.cell? ⟨w9.heap.size, 21, none⟩ = some (ocell st 5 21) := (HO.out 21 (by omega)).1
          have f1 : wr.frozen? ⟨w9.heap.size, 21, none⟩ = false := (HO.out 21 (by omega)).2
          have g2 : wr.cell? ⟨w9.heap.size, 22, none⟩ = some (ocell st 5 22) := (HO.out 22 (by omega)).1
          have f2 : wr.frozen? ⟨w9.heap.size, 22, none⟩ = false := (HO.out 22 (by omega)).2
          have g3 : wr.cell? ⟨w9.heap.size, 23, none⟩ = some (ocell st 5 23) := (HO.out 23 (by omega)).1
          have f3 : wr.frozen? ⟨w9.heap.size, 23, none⟩ = false := (HO.out 23 (by omega)).2
          have HST := Lib.hid hst
          have HB2 := Lib.hid ((((HB.out.setCell (p := ⟨w9.heap.size, 20, none⟩) HWN.out (.int .u8 (U st.f / 16777216 % 256))).setCell (p := ⟨w9.heap.size, 21, none⟩) HWN.out (.int .u8 (U st.f / 65536 % 256))).setCell (p := ⟨w9.heap.size, 22, none⟩) HWN.out (.int .u8 (U st.f / 256 % 256))).setCell (p := ⟨w9.heap.size, 23, none⟩) HWN.out (.int .u8 (U st.f % 256)))
          clear hst HO HB
          go_wp2
          exact ⟨⟨6, by go_num, by omega, HST.out, HB2.out⟩, by simp [intOf]⟩
        · have hst := ocell_step HO.out (show 6 < 8 by omega)
          have hix : (Instr.index 44 (.agg #[.int .u32 (U st.a), .int .u32 (U st.b), .int .u32 (U st.c), .int .u32 (U st.d), .int .u32 (U st.e), .int .u32 (U st.f), .int .u32 (U st.g), .int .u32 (U st.h)]) (.int .i64 6)).run Tryd.prog wr = .ok (.int .u32 (U st.g)) wr := index8_6 wr st
          have g0 : wr.cell? ⟨w9.heap.size, 24, none⟩ = some (ocell st 6 24) := (HO.out 24 (by omega)).1
          have f0 : wr.frozen? ⟨w9.heap.size, 24, none⟩ = false := (HO.out 24 (by omega)).2
          have g1 : wr.cell? ⟨w9.heap.size, 25, none⟩ = some (ocell st 6 25) := (HO.out 25 (by omega)).1
          have f1 : wr.frozen? ⟨w9.heap.size, 25, none⟩ = false := (HO.out 25 (by omega)).2
          have g2 : wr.cell? ⟨w9.heap.size, 26, none⟩ = some (ocell st 6 26) := (HO.out 26 (by omega)).1
          have f2 : wr.frozen? ⟨w9.heap.size, 26, none⟩ = false := (HO.out 26 (by omega)).2
          have g3 : wr.cell? ⟨w9.heap.size, 27, none⟩ = some (ocell st 6 27) := (HO.out 27 (by omega)).1
          have f3 : wr.frozen? ⟨w9.heap.size, 27, none⟩ = false := (HO.out 27 (by omega)).2
          have HST := Lib.hid hst
          have HB2 := Lib.hid ((((HB.out.setCell (p := ⟨w9.heap.size, 24, none⟩) HWN.out (.int .u8 (U st.g / 16777216 % 256))).setCell (p := ⟨w9.heap.size, 25, none⟩) HWN.out (.int .u8 (U st.g / 65536 % 256))).setCell (p := ⟨w9.heap.size, 26, none⟩) HWN.out (.int .u8 (U st.g / 256 % 256))).setCell (p := ⟨w9.heap.size, 27, none⟩) HWN.out (.int .u8 (U st.g % 256)))
          clear hst HO HB
          go_wp2
          exact ⟨⟨7, by go_num, by omega, HST.out, HB2.out⟩, by simp [intOf]⟩
        · have hst := ocell_step HO.out (show 7 < 8 by omega)
          have hix : (Instr.index 44 (.agg #[.int .u32 (U st.a), .int .u32 (U st.b), .int .u32 (U st.c), .int .u32 (U st.d), .int .u32 (U st.e), .int .u32 (U st.f), .int .u32 (U st.g), .int .u32 (U st.h)]) (.int .i64 7)).run Tryd.prog wr = .ok (.int .u32 (U st.h)) wr := index8_7 wr st
          have g0 : wr.cell? ⟨w9.heap.size, 28, none⟩ = some (ocell st 7 28) := (HO.out 28 (by omega)).1
          have f0 : wr.frozen? ⟨w9.heap.size, 28, none⟩ = false := (HO.out 28 (by omega)).2
          have g1 : wr.cell? ⟨w9.heap.size, 29, none⟩ = some (ocell st 7 29) := (HO.out 29 (by omega)).1
          have f1 : wr.frozen? ⟨w9.heap.size, 29, none⟩ = false := (HO.out 29 (by omega)).2
          have g2 : wr.cell? ⟨w9.heap.size, 30, none⟩ = some (ocell st 7 30) := (HO.out 30 (by omega)).1
          have f2 : wr.frozen? ⟨w9.heap.size, 30, none⟩ = false := (HO.out 30 (by omega)).2
          have g3 : wr.cell? ⟨w9.heap.size, 31, none⟩ = some (ocell st 7 31) := (HO.out 31 (by omega)).1
          have f3 : wr.frozen? ⟨w9.heap.size, 31, none⟩ = false := (HO.out 31 (by omega)).2
          have HST := Lib.hid hst
          have HB2 := Lib.hid ((((HB.out.setCell (p := ⟨w9.heap.size, 28, none⟩) HWN.out (.int .u8 (U st.h / 16777216 % 256))).setCell (p := ⟨w9.heap.size, 29, none⟩) HWN.out (.int .u8 (U st.h / 65536 % 256))).setCell (p := ⟨w9.heap.size, 30, none⟩) HWN.out (.int .u8 (U st.h / 256 % 256))).setCell (p := ⟨w9.heap.size, 31, none⟩) HWN.out (.int .u8 (U st.h % 256)))
          clear hst HO HB
          go_wp2
          exact ⟨⟨8, by go_num, by omega, HST.out, HB2.out⟩, by simp [intOf]⟩
      · have t1 : ¬ (i : Int) < 8 := by omega
        have hi8 : i = 8 := by omega
        have hc := HO.out
        rw [hi8] at hc
        have hcv := (ocell_done hc).back (P := Tryd.prog) 35 9 5 32 32 (by simp [out]) Tryd.underlying35 Tryd.underlying5 Tryd.underlying9
        clear hc hi8
        go_wp2
        go_ret
        exact ⟨by rw [HDG.out]; rfl, HB.out⟩
end Go.Proofs.YtjhmpoekpambaaaDoor.Sha
