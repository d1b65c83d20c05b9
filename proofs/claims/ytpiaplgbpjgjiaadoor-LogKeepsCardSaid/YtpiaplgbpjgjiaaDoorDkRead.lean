/-
  Disks (layer 7): the walks of New, Fuse, Read, Loose, Spoil. No condition but that names are no longer than a string may be.
-/
import Derived.Test.YtpiaplgbpjgjiaaDoorDkOps
open Go Go.RowKit
namespace Go.Proofs.YtpiaplgbpjgjiaaDoor.Dk
open Base Mp
attribute [local go_sem ↓] Go.wp_at_zero Go.wp_at_succ

def fuseD (D : DiskD) (m : Int) : DiskD × Int := if m < 0 then (D, 2) else ({ D with fused := true, calls := m.toNat }, 0)
/-- A call that looks at a file. -/
def findD {α : Type} (D : DiskD) (n : List UInt8) (z : α) (f : FileD → α) : α := match lookL D.files (keyS n) with
  | none => z
  | some F => f F
def readD (D : DiskD) (n : List UInt8) : List UInt8 × Int := findD D n ([], 5) fun F => (F.bytes, 0)
def looseD (D : DiskD) (n : List UInt8) : Nat := findD D n 0 fun F => F.bytes.length - F.sure
def spoilD (D : DiskD) (n : List UInt8) (m : Int) (y : UInt8) : DiskD × Int := findD D n (D, 5) fun F => if m < 0 ∨ (F.bytes.length : Int) ≤ m then (D, 2) else (withFile D (keyS n) ⟨F.bytes.set m.toNat (F.bytes.getD m.toNat 0 ^^^ y), F.sure, F.fresh⟩, 0)
section
variable {w : World} {b : Nat} {D : DiskD} {T : Nat → Prop}
theorem New_f (w : World) (r : Nat) (hr : r ≤ 4194304) : Calls Tryd.prog 15 #[.int .i64 (r : Int)] w fun e w' => ∃ b, e = .returned (.tuple #[.pointer (some ⟨b, 0, none⟩), .int .i64 0]) ∧ DiskAt w' b ⟨r, [], false, 0⟩ (fun i => w.heap.size ≤ i ∧ i < w'.heap.size) ∧ Below w.heap.size w w' := by
  have hmm := run_makeMap (P := Tryd.prog) 68 w
  have hs := alloc_more w (.map #[] 0)
  have HM := Lib.hid (Mp.made w Tryd.prog 9)
  have HB := Lib.hid (show Below w.heap.size w (w.alloc (.map #[] 0)) from (Below.refl _ _).alloc (Nat.le_refl _) _)
  have m0 : ¬ (r : Int) < 0 := by omega
  have m1 : (r : Int) ≤ 4194304 := by omega
  go_enter Tryd.func15, Tryd.ntmps15
  go_wp2
  go_ret2
  clear hmm
  obtain ⟨bm, hbm⟩ : ∃ bm, bm = w.heap.size := ⟨_, rfl⟩
  have HS := Lib.hid hs
  rw [← hbm] at HS HM ⊢
  clear hs
  have HW := Lib.hid hbm
  clear hbm
  generalize w.alloc (.map #[] 0) = w1 at *
  have hc := cells_made w1 #[.bool true, .int .i64 (r : Int), .map (some bm), .bool false, .int .i64 0] 70
  have hb2 : Below w1.heap.size w1 (w1.alloc (.cells #[.bool true, .int .i64 (r : Int), .map (some bm), .bool false, .int .i64 0] 70)) := (Below.refl _ _).alloc (Nat.le_refl _) _
  have hs2 := alloc_more w1 (.cells #[.bool true, .int .i64 (r : Int), .map (some bm), .bool false, .int .i64 0] 70)
  have hz := HS.out
  have h9 : Below bm w w1 := by rw [HW.out]; exact HB.out
  refine ⟨w1.heap.size, by first | rfl | (rw [hz]; rfl), ⟨fun _ => none, fun _ => 0, bm, hc.congr fun j hj => ?_, HM.out.next hb2, fun p hp => (by cases hp), rfl, rfl, by omega, ⟨by simp, hr, by simp [total], fun p hp => (by cases hp), fun p hp => (by cases hp), List.Pairwise.nil, (by show (0 : Nat) < 9223372036854775808; decide)⟩, by omega, by omega, fun i k h => (by cases h), fun i hi => hi.2⟩, h9.trans (hb2.mono (by omega))⟩
  have : j = 0 ∨ j = 1 ∨ j = 2 ∨ j = 3 ∨ j = 4 := by have : j < 5 := hj; omega
  rcases this with rfl | rfl | rfl | rfl | rfl <;> rfl
theorem Fuse_f (h : DiskAt w b D T) (m : Int) (hm : m ≤ 9223372036854775807) : Calls Tryd.prog 23 #[.pointer (some ⟨b, 0, none⟩), .int .i64 m] w (OpPost w b T (fuseD D m)) := by
  obtain ⟨tag, blk, bm, h⟩ := h
  have H := Lib.hid h
  have HT := Lib.hid (There_yes w b bm D h.is)
  have c3 := h.is.c3
  have c4 := h.is.c4
  have f3 := h.is.f3
  have f4 := h.is.f4
  clear h
  by_cases hm0 : m < 0
  · have HE := Lib.hid (show fuseD D m = (D, 2) by unfold fuseD; rw [if_pos hm0])
    go_enter Tryd.func23, Tryd.ntmps23
    go_wp2_with fail
    with_reducible refine HT.out.mono ?_
    rintro e w1 ⟨rfl, rfl⟩
    go_wp2
    go_ret
    rw [HE.out]
    exact ⟨rfl, H.out.out, Kept.refl _ _⟩
  · have HE := Lib.hid (show fuseD D m = ({ D with fused := true, calls := m.toNat }, 0) by unfold fuseD; rw [if_neg hm0])
    have HN := Lib.hid (show ((m.toNat : Nat) : Int) = m by omega)
    go_enter Tryd.func23, Tryd.ntmps23
    go_wp2_with fail
    with_reducible refine HT.out.mono ?_
    rintro e w1 ⟨rfl, rfl⟩
    go_wp2
    go_ret
    rw [HE.out]
    have hk : Kept (fun i => i = b) w ((w.setCell ⟨b, 3, none⟩ (.bool true)).setCell ⟨b, 4, none⟩ (.int .i64 m)) := Kept.setCell (T := fun i => i = b) (Kept.setCell (T := fun i => i = b) (Kept.refl _ w) (.inl rfl) _) (.inl rfl) _
    have h0 := H.out
    refine ⟨rfl, DiskBy.out (h0.turned rfl hk ((CellsAt.set (CellsAt.set h0.head (i := 3) (by omega) (.bool true)) (i := 4) (by omega) (.int .i64 m)).congr fun j hj => ?_) ⟨h0.fine.few, h0.fine.room, h0.fine.fits, h0.fine.names, h0.fine.sure, h0.fine.apart, ?_⟩), hk.mono fun i hi => by rw [hi]; exact h0.mineb⟩
    · have : j = 0 ∨ j = 1 ∨ j = 2 ∨ j = 3 ∨ j = 4 := by omega
      rcases this with rfl | rfl | rfl | rfl | rfl
      · rfl
      · rfl
      · rfl
      · rfl
      · show Value.int .i64 m = Value.int .i64 ((m.toNat : Nat) : Int)
        rw [HN.out]
    · show m.toNat < 9223372036854775808
      omega
theorem own_bytes {w : World} {v : Value} {l : List UInt8} (h : w.ownsRow 0 5 1 v l.length (byteV l)) : (v = .slice none 0 0 ∧ l = []) ∨ ∃ g cap, v = .slice (some ⟨g, 0, none⟩) l.length cap ∧ BytesAt w g l := by
  obtain ⟨hl, ⟨h1, h2⟩ | ⟨g, cap, cur, h1, hg, hb, hnc, hcm, hcs, ht⟩⟩ := h
  · exact .inl ⟨h1, List.length_eq_zero_iff.1 h2⟩
  · refine .inr ⟨g, cap, h1, fun j hj => ⟨?_, ?_⟩⟩
    · have h2 : (cur.toList.take (l.length * 1))[j]? = (byteV l)[j]? := by rw [ht]
      rw [List.getElem?_take_of_lt (by omega)] at h2
      simp [World.cell?, hb, byteV, hj] at h2 ⊢
      exact h2
    · simp [World.frozen?, hb]
theorem Read_f (h : DiskAt w b D T) (n : List UInt8) (hn : n.length ≤ maxLen) : Calls Tryd.prog 20 #[.pointer (some ⟨b, 0, none⟩), .string (B n)] w fun e w' => e = .returned (.tuple #[.string (B (readD D n).1), .int .i64 (readD D n).2]) ∧ w = w' := by
  obtain ⟨tag, blk, bm, h⟩ := h
  cases hl : lookL D.files (keyS n) with
  | none =>
    have HF := Lib.hid (Find_no h n hn hl)
    have HE := Lib.hid (show readD D n = ([], 5) by unfold readD findD; rw [hl])
    clear h hl
    go_enter Tryd.func20, Tryd.ntmps20
    go_wp2_with fail
    with_reducible refine HF.out.mono ?_
    rintro e w1 ⟨rfl, rfl⟩
    go_wp2
    go_ret2
    rw [HE.out]
    exact ⟨rfl, rfl⟩
  | some F =>
    have HF := Lib.hid (Find_yes h n hn F hl)
    have HE := Lib.hid (show readD D n = (F.bytes, 0) by unfold readD findD; rw [hl])
    obtain ⟨⟨v, hcs, hr, hv⟩, hm⟩ := h.at hl
    have c0 := (hcs 0 (by omega)).1
    simp only [fileCell] at c0
    rcases own_bytes hr with ⟨rfl, hb⟩ | ⟨g, cap, rfl, hb⟩
    · have hcv : (convert 45 9 (.slice none 0 0)).run Tryd.prog w = .ok (.string (B F.bytes)) w := by rw [hb]; kernel_rfl
      clear h hl hcs hr hv hm hb
      go_enter Tryd.func20, Tryd.ntmps20
      go_wp2_with fail
      with_reducible refine HF.out.mono ?_
      rintro e w1 ⟨rfl, rfl⟩
      go_wp2
      go_ret2
      rw [HE.out]
      exact ⟨rfl, rfl⟩
    · have hcv := hb.back (P := Tryd.prog) 45 9 5 F.bytes.length cap rfl Tryd.underlying45 Tryd.underlying5 Tryd.underlying9
      clear h hl hcs hr hv hm hb
      go_enter Tryd.func20, Tryd.ntmps20
      go_wp2_with fail
      with_reducible refine HF.out.mono ?_
      rintro e w1 ⟨rfl, rfl⟩
      go_wp2
      go_ret2
      rw [HE.out]
      exact ⟨rfl, rfl⟩
theorem FLoose_f {tag : Nat → Option Lit} {blk : Lit → Nat} {bm : Nat} (h : DiskBy tag blk bm w b D T) {k : Lit} {F : FileD} (hl : lookL D.files k = some F) : Calls Tryd.prog 40 #[.pointer (some ⟨blk k, 0, none⟩)] w fun e w' => e = .returned (.int .i64 ((F.bytes.length - F.sure : Nat) : Int)) ∧ ∃ m, w' = w.drewN m := by
  obtain ⟨⟨v, hcs, hr, hv⟩, hm⟩ := h.at hl
  have c0 := (hcs 0 (by omega)).1
  have c1 := (hcs 1 (by omega)).1
  simp only [fileCell] at c0 c1
  obtain ⟨p, cap, rfl, -⟩ := own_take hr (Nat.le_refl _)
  have hs := h.fine.sure _ (mem_of_look hl)
  have hsh := h.fine.short (mem_of_look hl)
  simp only at hs hsh
  have e1 : (F.bytes.length : Int) - (F.sure : Int) = ((F.bytes.length - F.sure : Nat) : Int) := by omega
  have HE := Lib.hid e1
  clear h hl hcs hr hv hm e1
  generalize blk k = fb at *
  go_enter Tryd.func40, Tryd.ntmps40
  go_wp2_with fail
  go_quiet (fail)
  go_wp2
  go_ret
  rw [HE.out]
  exact ⟨rfl, _, rfl⟩
theorem Loose_f (h : DiskAt w b D T) (n : List UInt8) (hn : n.length ≤ maxLen) : Calls Tryd.prog 19 #[.pointer (some ⟨b, 0, none⟩), .string (B n)] w fun e w' => e = .returned (.int .i64 (looseD D n : Nat)) ∧ ∃ m, w' = w.drewN m := by
  obtain ⟨tag, blk, bm, h⟩ := h
  cases hl : lookL D.files (keyS n) with
  | none =>
    have HF := Lib.hid (Find_no h n hn hl)
    have HE := Lib.hid (show looseD D n = 0 by unfold looseD findD; rw [hl])
    clear h hl
    go_enter Tryd.func19, Tryd.ntmps19
    go_wp2_with fail
    with_reducible refine HF.out.mono ?_
    rintro e w1 ⟨rfl, rfl⟩
    go_wp2
    go_ret
    rw [HE.out]
    exact ⟨rfl, 0, rfl⟩
  | some F =>
    have HF := Lib.hid (Find_yes h n hn F hl)
    have HE := Lib.hid (show looseD D n = F.bytes.length - F.sure by unfold looseD findD; rw [hl])
    have HL := Lib.hid (FLoose_f h hl)
    clear h hl
    go_enter Tryd.func19, Tryd.ntmps19
    go_wp2_with fail
    with_reducible refine HF.out.mono ?_
    rintro e w1 ⟨rfl, rfl⟩
    go_wp2_with fail
    with_reducible refine HL.out.mono ?_
    rintro e w1 ⟨rfl, m, rfl⟩
    go_wp2
    go_ret
    rw [HE.out]
    exact ⟨rfl, m, rfl⟩
end
end Go.Proofs.YtpiaplgbpjgjiaaDoor.Dk
