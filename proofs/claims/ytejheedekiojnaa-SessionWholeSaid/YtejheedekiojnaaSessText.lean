/-
  The walk of (*held).text (layer 28).
-/
import Derived.Test.YtejheedekiojnaaSessPut
open Go Go.RowKit
namespace Go.Proofs.Ytejheedekiojnaa.Sess
open Base Mp

theorem builder_next {T e : TypeId} {K b : Nat} {bs : List Value} {w w' : World} (h : Lib.IsBuilder T e K b bs w) (hb : Below w.heap.size w w') : Lib.IsBuilder T e K b bs w' := by
  have key : ∀ p, Lib.BuilderAt T e K b p bs w → Lib.BuilderAt T e K b p bs w' := by
    rintro p ⟨hB, v, hv, ho, hn⟩
    refine ⟨hB, v, ?_, own_next ho hb, hn⟩
    rw [hb.block b ?_, hv]
    rcases Nat.lt_or_ge b w.heap.size with hh | hh
    · exact hh
    · rw [Array.getElem?_eq_none hh] at hv; cases hv
  exact h.imp (key _) (key _)
def firsts (H : Held) (k : Nat) : List UInt8 := ((H.ps.take k).map (·.getD [])).flatten
theorem firsts_succ (H : Held) (k : Nat) (hk : k < H.ps.length) : firsts H (k + 1) = firsts H k ++ (H.ps[k]).getD [] := by
  unfold firsts
  rw [List.take_succ_eq_append_getElem hk, List.map_append, List.flatten_append]
  rw [show List.flatten (List.map (fun x : Option (List UInt8) => x.getD []) [H.ps[k]]) = (H.ps[k]).getD [] from by simp]
theorem firsts_all (H : Held) : firsts H H.ps.length = textOf H := by
  unfold firsts textOf
  rw [List.take_length]
theorem firsts_le (H : Held) (hf : Fine H) (k : Nat) (hk : k ≤ H.ps.length) : (firsts H k).length ≤ k * 4096 := by
  induction k with
  | zero => simp [firsts]
  | succ k ih =>
    rw [firsts_succ H k (by omega), List.length_append]
    have h1 := ih (by omega)
    have h2 : ((H.ps[k]'(by omega)).getD []).length ≤ 4096 := by
      have hm : H.ps[k]'(by omega) ∈ H.ps := List.getElem_mem _
      cases ho : H.ps[k]'(by omega) with
      | none => simp
      | some x => rw [ho] at hm; exact hf.short x hm
    omega

set_option maxHeartbeats 1000000 in
theorem text_calls (b : Nat) (H : Held) (w : World) (hh : HeldAt w b H) (hf : Fine H) :
    Calls Try.prog 19 #[ptr (b + 1)] w fun e w' => e = .returned (.string (B (textOf H))) ∧ Below w.heap.size w w' := by
  have hlt := hh.head.lt (by omega)
  have h0 : Lib.IsBuilder 64 5 w.heap.size w.heap.size [] (w.alloc (.cells #[.pointer none, .slice none 0 0] 64)) := Lib.fresh_isBuilder _ _ w
  have hnew : (w.alloc (.cells #[.pointer none, .slice none 0 0] 64)).heap[w.heap.size]? = some (.cells #[.pointer none, .slice none 0 0] 64 (0, 0)) := by
    show (w.heap.push _)[w.heap.size]? = _
    rw [Array.getElem?_push_size]
  have hb0 : Below w.heap.size w (w.alloc (.cells #[.pointer none, .slice none 0 0] 64)) := (Below.refl _ w).alloc (Nat.le_refl _) _
  have hw : HeldAt (w.alloc (.cells #[.pointer none, .slice none 0 0] 64)) b H := hh.kept (Kept.of_below (T := fun _ => False) hb0) (fun h => h) (fun h => h)
  obtain ⟨hc3, -⟩ := hw.head 3 (by omega)
  simp only [headCell] at hc3
  have hbb := bytes_le H hf
  have HN := Lib.hid hnew
  have HB0 := Lib.hid hb0
  have HH := Lib.hid hh
  have HF := Lib.hid hf
  clear hnew hb0 hw h0 hh hf
  unfold ptr
  go_enter Try.func19, Try.ntmps19
  go_wp2_with fail
  generalize hw1 : w.alloc (.cells #[.pointer none, .slice none 0 0] 64) = w1 at *
  refine (Bld.Grow_fresh w.heap.size w.heap.size (bytes H) w1 (Nat.le_refl _) HN.out HB0.out.size (by omega)).mono ?_
  rintro e w2 ⟨rfl, hbuild, hb2⟩
  have hb3 : Below w.heap.size w w2 := HB0.out.trans hb2
  have hw2 : HeldAt w2 b H := HH.out.kept (Kept.of_below (T := fun _ => False) hb3) (fun h => h) (fun h => h)
  obtain ⟨hc1, -⟩ := hw2.head 1 (by omega)
  simp only [headCell] at hc1
  have HB3 := Lib.hid hb3
  have hbld : Lib.IsBuilder 64 5 w.heap.size w.heap.size (Lib.byteCells (firsts H 0)) w2 := Or.inr hbuild
  have HBL := Lib.hid hbld
  clear hb2 hb3 hw2 hbuild hbld hw1 HN HB0 hc3
  clear w1
  have hlen := HF.out.few
  go_wp2_with fail
  go_loopw [16] (fun i wr => ∃ k : Nat, k ≤ H.ps.length ∧ i = .int .i64 k ∧ Lib.IsBuilder 64 5 w.heap.size w.heap.size (Lib.byteCells (firsts H k)) wr ∧ Below w.heap.size w wr) (fun i _ => H.ps.length - (intOf i).toNat)
  case atStart => exact ⟨0, Nat.zero_le _, rfl, HBL.out, HB3.out⟩
  case round =>
    obtain ⟨k, hk, rfl, hbl, hbe⟩ := hrel
    have hwr : HeldAt wr b H := HH.out.kept (Kept.of_below (T := fun _ => False) hbe) (fun h => h) (fun h => h)
    have HBL2 := Lib.hid hbl
    have HBE := Lib.hid hbe
    have HWR := Lib.hid hwr
    clear hbl hbe hwr
    by_cases hlt2 : k < H.ps.length
    · obtain ⟨bc0, -⟩ := HWR.out.body (k * 2) (by omega)
      obtain ⟨bc1, -⟩ := HWR.out.body (k * 2 + 1) (by omega)
      have e0 : pieceCell H.ps (k * 2) = .bool (H.ps[k]).isSome := by
        unfold pieceCell; rw [if_pos (by omega), show k * 2 / 2 = k by omega, List.getElem?_eq_getElem hlt2]; rfl
      have e1 : pieceCell H.ps (k * 2 + 1) = .string (B ((H.ps[k]).getD [])) := by
        unfold pieceCell; rw [if_neg (by omega), show (k * 2 + 1) / 2 = k by omega, List.getElem?_eq_getElem hlt2]; rfl
      rw [e0] at bc0
      rw [e1] at bc1
      clear e0 e1
      have hnext := firsts_succ H k hlt2
      have hle := firsts_le H HF.out (k + 1) hlt2
      rw [hnext, List.length_append] at hle
      have HNX := Lib.hid hnext
      clear hnext
      generalize (H.ps[k]).isSome = ob at *
      generalize (H.ps[k]).getD [] = ot at *
      have hba : Below wr.heap.size wr (wr.alloc (.cells #[.bool ob, .string (B ot)] 61)) := (Below.refl _ _).alloc (Nat.le_refl _) _
      have hka : k + 1 ≤ 256 := by omega
      have hle2 : (firsts H k).length + ot.length ≤ 1048576 := by omega
      have hcall := Bld.WriteString w.heap.size w.heap.size (Lib.byteCells (firsts H k)) (B ot) (wr.alloc (.cells #[.bool ob, .string (B ot)] 61)) (builder_next HBL2.out hba)
        (by rw [Lib.byteCells_length, B_size]; omega) (Nat.le_trans HBE.out.size hba.size)
      have hba2 : Below w.heap.size w (wr.alloc (.cells #[.bool ob, .string (B ot)] 61)) := HBE.out.trans (hba.mono HBE.out.size)
      have HCALL := Lib.hid hcall
      have HBA := Lib.hid hba2
      clear hba hba2 hcall
      go_wp2_with fail
      refine HCALL.out.mono ?_
      rintro e w4 ⟨rfl, hb4, hbe4⟩
      have hbe5 : Below w.heap.size w w4 := HBA.out.trans hbe4
      have hb5 : Lib.IsBuilder 64 5 w.heap.size w.heap.size (Lib.byteCells (firsts H (k + 1))) w4 := by
        rw [HNX.out, Lib.byteCells_append]; exact Or.inr hb4
      have HB5 := Lib.hid hb5
      have HE5 := Lib.hid hbe5
      clear hb4 hbe4 hb5 hbe5
      go_wp2
      go_roundw
      case rel => exact ⟨k + 1, by omega, by go_num, HB5.out, HE5.out⟩
      case measure => simp [intOf]; omega
    · have hkk : k = H.ps.length := by omega
      subst hkk
      have hcall := Bld.String_any w.heap.size w.heap.size (firsts H H.ps.length) wr HBL2.out HBE.out.size
      have HCALL := Lib.hid hcall
      clear hcall
      go_wp2_with fail
      refine HCALL.out.mono ?_
      rintro e w4 ⟨rfl, hbe4⟩
      have hbe5 : Below w.heap.size w w4 := HBE.out.trans hbe4
      have HE5 := Lib.hid hbe5
      clear hbe4 hbe5
      go_wp2
      go_ret
      refine ⟨?_, HE5.out⟩
      rw [firsts_all]; rfl
end Go.Proofs.Ytejheedekiojnaa.Sess
