/-
  Disks (layer 7): the walk of Append, and of Spoil. No condition but that names and texts are no longer than a string may be.
-/
import Derived.Test.YtpiaplgbpjgjiaaDoorDkRoom
import Derived.Lib.AppendStr
import Derived.Deep.AppendLies
open Go Go.RowKit
namespace Go.Proofs.YtpiaplgbpjgjiaaDoor.Dk
open Base Mp
attribute [local go_sem ↓] Go.wp_at_zero Go.wp_at_succ

theorem infoU8 : (Tryd.prog.info? 5).map (fun i => (i.zero, i.size, i.bytes)) = some (some (.int .u8 0), 1, 1) := by kernel_rfl
theorem strCells_B (s : List UInt8) : Lib.strCells (B s) = byteV s := by simp [Lib.strCells, byteV, B_data]
theorem kept_grown {w w' : World} {row : Option Nat} (h : w.grownBy w' row) : Kept (fun i => row = some i) w w' := ⟨h.os, h.tape, h.output, h.size, fun i hi hn => h.block i hi (fun e => hn e.symm)⟩
/-- 'append(f.bytes, text...)'. -/
theorem append_B (w : World) (v : Value) (l s : List UInt8) (hr : w.ownsRow 0 5 1 v l.length (byteV l)) (hm : l.length + s.length ≤ 8388608) :
    ∃ v' w', (Builtin.append_ #[45, 9] 45 #[v, .string (B s)]).run Tryd.prog w = .ok v' w' ∧ w'.ownsRow 0 5 1 v' (l ++ s).length (byteV (l ++ s)) ∧ Kept (fun i => v.ownBlock = some i) w w' ∧ ∀ r, v'.ownBlock = some r → v.ownBlock = some r ∨ (r = w.heap.size ∧ r < w'.heap.size) := by
  obtain ⟨i0, hi, hz0, hz1, hz2⟩ := info_parts infoU8
  obtain ⟨v', w', h1, h2, h3, h4⟩ := Lib.run_append_own_string (P := Tryd.prog) w 0 45 9 45 5 i0 Tryd.underlying45 Tryd.underlying9 hi hz0 hz1 hz2 v l.length (byteV l) hr (B s) (by rw [B_size]; unfold maxLen; omega) (by rw [B_size]; omega) (Nat.zero_le _)
  rw [B_size, strCells_B] at h2
  have h2' : w'.ownsRow 0 5 1 v' (l ++ s).length (byteV (l ++ s)) := by rw [List.length_append, show byteV (l ++ s) = byteV l ++ byteV s by simp [byteV]]; exact h2
  refine ⟨v', w', h1, h2', kept_grown h3, fun r hv => ?_⟩
  have hrl := (h2.lt r hv).2
  rcases hr.2 with ⟨rfl, h0⟩ | ⟨g, cap, cur, rfl, hg, hb, hnc, hcm, hcs, ht⟩
  · by_cases hs : s.length = 0
    · rw [h4.2 ⟨rfl, by rw [B_size]; exact hs⟩] at hv
      cases hv
    · have e := run_append_nil_string (P := Tryd.prog) w 45 9 45 5 i0 _ Tryd.underlying45 Tryd.underlying9 hi hz0 (B s) (by rw [B_size]; omega) (by rw [B_size]; omega) (by rw [B_size, hz2]; omega)
      rw [h1] at e
      have e1 := (Result.ok.inj e).1
      rw [e1] at hv
      injection hv with hv
      exact .inr ⟨hv.symm, hrl⟩
  · by_cases hroom : l.length + s.length ≤ cap
    · have e := Lib.run_append_room_string (P := Tryd.prog) w 45 9 45 5 i0 Tryd.underlying45 Tryd.underlying9 hi hz1 g l.length cap cur hb (B s) (by rw [B_size]; omega) (by rw [B_size]; omega)
      rw [h1] at e
      have e1 := (Result.ok.inj e).1
      rw [e1] at hv
      exact .inl hv
    · have e := Lib.run_append_grow_string (P := Tryd.prog) w 45 9 45 5 i0 _ Tryd.underlying45 Tryd.underlying9 hi hz0 ⟨g, 0, none⟩ l.length cap (byteV l) (by rw [hz1]; simp [byteV]) (hr.cells (g := g) rfl) (B s) (by rw [B_size]; omega) (by rw [B_size]; omega) (by rw [hz2, B_size]; exact growslice_fits (by omega) (by omega))
      rw [h1] at e
      have e1 := (Result.ok.inj e).1
      rw [e1] at hv
      injection hv with hv
      exact .inr ⟨hv.symm, hrl⟩
/-- A file whose row grew: another row, perhaps. -/
theorem DiskBy.appended {tag : Nat → Option Lit} {blk : Lit → Nat} {bm : Nat} {w1 w2 : World} {b : Nat} {D : DiskD} {T : Nat → Prop} (hh : DiskBy tag blk bm w1 b D T) {k : Lit} {F F' : FileD} {v v' : Value} (hl : lookL D.files k = some F) (hcs : CellsAt w1 (blk k) 3 (fileCell v F)) (hv : ∀ r, v.ownBlock = some r → tag r = some k ∧ r ≠ blk k)
    (ho2 : w2.ownsRow 0 5 1 v' F'.bytes.length (byteV F'.bytes)) (hk2 : Kept (fun i => v.ownBlock = some i) w1 w2) (hv2 : ∀ r, v'.ownBlock = some r → v.ownBlock = some r ∨ (r = w1.heap.size ∧ r < w2.heap.size)) (hsf : F'.sure = F.sure) (hfr : F'.fresh = F.fresh) (hfi : Fine (withFile D k F')) :
    (∃ tag', DiskBy tag' blk bm (w2.setCell ⟨blk k, 0, none⟩ v') b (withFile D k F') (More T w1 (w2.setCell ⟨blk k, 0, none⟩ v'))) ∧ Kept (fun i => tag i = some k) w1 (w2.setCell ⟨blk k, 0, none⟩ v') ∧ w2.cell? ⟨blk k, 0, none⟩ = some v ∧ w2.frozen? ⟨blk k, 0, none⟩ = false := by
  have hm := (hh.at hl).mine
  have hfb := hcs.lt (by omega)
  have hne : ∀ r, v.ownBlock = some r → r ≠ blk k := fun r h => (hv r h).2
  have hk2' : Kept (fun i => tag i = some k) w1 w2 := hk2.mono fun i hi => (hv i hi).1
  have hcs2 := hcs.kept hk2 hfb (fun e => hne _ e rfl)
  have hv3 : ∀ r, v'.ownBlock = some r → r ≠ blk k := fun r h e => by
    rcases hv2 r h with h2 | ⟨h2, _⟩
    · exact hne r h2 e
    · omega
  have hk3 : Kept (fun i => i = blk k) w2 (w2.setCell ⟨blk k, 0, none⟩ v') := Kept.setCell (T := fun i => i = blk k) (Kept.refl _ w2) (.inl rfl) _
  have hkk : Kept (fun i => tag i = some k) w1 (w2.setCell ⟨blk k, 0, none⟩ v') := hk2'.trans hk3 (fun i e => .inl (by rw [e]; exact hm))
  refine ⟨⟨fun i => if v'.ownBlock = some i then some k else tag i, hh.file hl hkk ⟨⟨v', (CellsAt.set hcs2 (i := 0) (by omega) v').congr fun j hj => ?_, own_kept ho2 hk3 (fun r h e => hv3 r h e), fun r h => ⟨if_pos h, hv3 r h⟩⟩, ?_⟩ (fun i hi => ?_) (fun i q hi hq => ?_) hfi⟩, hkk, (hcs2 0 (by omega)).1, (hcs2 0 (by omega)).2⟩
  · have : j = 0 ∨ j = 1 ∨ j = 2 := by omega
    rcases this with rfl | rfl | rfl
    · rfl
    · show Value.int .i64 (F.sure : Int) = Value.int .i64 (F'.sure : Int)
      rw [hsf]
    · show Value.bool F.fresh = Value.bool F'.fresh
      rw [hfr]
  · rw [if_neg (fun e => hv3 _ e rfl)]; exact hm
  · by_cases e : v'.ownBlock = some i
    · rw [if_pos e]
      rcases hv2 i e with h2 | ⟨h2, _⟩
      · exact (hv i h2).1.symm
      · omega
    · rw [if_neg e]
  · by_cases e : v'.ownBlock = some i
    · exact Nat.lt_of_lt_of_le (ho2.lt i e).2 hk3.size
    · rw [if_neg e] at hq
      exact absurd (hh.old i (hh.minet i q hq)) (by omega)
theorem wpList_append_run2 {P : Program} {w w' : World} {ops : Array Oper} {rest : List Oper} {o : Oper} {a : Act} {Q : Exit → Act → World → Prop} (hgd : o.guard = none) (s x : Operand) (t u : TypeId)
    (ho : o.op = .call { callee := .builtin .append, args := #[s, x], argTypes := #[t, u] }) {v xv v' : Value} (hs : a.eval s = v) (hx : a.eval x = xv) (hr : (Builtin.append_ #[t, u] o.type #[v, xv]).run P w = .ok v' w')
    (h : wpList P ops Q rest (a.put o.dst v') w') : wpList P ops Q (o :: rest) a w :=
  wpList_plain hgd fun _ hK => by
    unfold Oper.wp execOp
    simp only [ho, resolve, invoke, builtin, Sem.run_bind, Sem.run_pure, Result.andThen_ok, List.map_toArray, List.map_cons, List.map_nil, hs, hx, hr]
    exact hK _ _ h
def appendD (D : DiskD) (n s : List UInt8) : DiskD × Int := opD D n fun F => if left D < s.length then (D, 6) else (done (withFile D (keyS n) ⟨F.bytes ++ s, F.sure, F.fresh⟩), 0)
set_option maxRecDepth 100000 in
set_option maxHeartbeats 2000000 in
theorem Append_f {w : World} {b : Nat} {D : DiskD} {T : Nat → Prop} (h : DiskAt w b D T) (n s : List UInt8) (hn : n.length ≤ maxLen) (hsl : s.length ≤ maxLen) : Calls Tryd.prog 17 #[.pointer (some ⟨b, 0, none⟩), .string (B n), .string (B s)] w (OpPost w b T (appendD D n s)) := by
  obtain ⟨tag, blk, bm, h⟩ := h
  have H := Lib.hid h
  have HO := Lib.hid (Open_f h n hn)
  have HRM := Lib.hid (Room_f ⟨tag, blk, bm, h⟩)
  rcases open_cases blk D n with ⟨c, hc, ho, hop⟩ | ⟨hs, F, hl, ho, hop⟩
  · rw [ho] at HO
    have HE := Lib.hid (show appendD D n s = (D, c) from hop _)
    clear h hop ho
    go_enter Tryd.func17, Tryd.ntmps17
    go_wp2_with fail
    with_reducible refine HO.out.mono ?_
    rintro e w1 ⟨rfl, rfl⟩
    go_wp2
    go_ret
    rw [HE.out]
    exact ⟨rfl, H.out.out, Kept.refl _ _⟩
  · rw [ho] at HO
    have HOP := Lib.hid hop
    have HL := Lib.hid hl
    have HS := Lib.hid hs
    have HM := Lib.hid (show ∀ i, tag i = some (keyS n) → T i from fun i hi => h.minet i _ hi)
    have HB := Lib.hid h.mineb
    clear h hop ho hs hl
    unfold maxLen at hsl
    by_cases hrm : left D < s.length
    · have HE := Lib.hid (show appendD D n s = (D, 6) by unfold appendD; rw [HOP.out, if_pos hrm])
      have r0 : ((left D : Nat) : Int) < (s.length : Int) := by omega
      clear hrm
      go_enter Tryd.func17, Tryd.ntmps17
      go_wp2_with fail
      with_reducible refine HO.out.mono ?_
      rintro e w1 ⟨rfl, rfl⟩
      go_wp2_with fail
      with_reducible refine HRM.out.mono ?_
      rintro e w1 ⟨rfl, hb1⟩
      have HB1 := Lib.hid hb1
      clear hb1
      go_wp2
      go_ret
      rw [HE.out]
      exact ⟨rfl, (H.out.later HB1.out).wide (fun _ h => .inl h) (fun i hi => by rcases hi with hi | hi; exact Nat.lt_of_lt_of_le (H.out.old i hi) HB1.out.size; exact hi.2) |> fun q => ⟨_, _, _, q⟩, Kept.of_below HB1.out⟩
    · have HE := Lib.hid (show appendD D n s = (done (withFile D (keyS n) ⟨F.bytes ++ s, F.sure, F.fresh⟩), 0) by unfold appendD; rw [HOP.out, if_neg hrm])
      have r0 : (s.length : Int) ≤ ((left D : Nat) : Int) := by omega
      have HLT := Lib.hid (show s.length ≤ left D by omega)
      clear hrm
      go_enter Tryd.func17, Tryd.ntmps17
      go_wp2_with fail
      with_reducible refine HO.out.mono ?_
      rintro e w1 ⟨rfl, rfl⟩
      go_wp2_with fail
      with_reducible refine HRM.out.mono ?_
      rintro e w1 ⟨rfl, hb1⟩
      have HB1 := Lib.hid hb1
      have hh := H.out.later hb1
      obtain ⟨⟨v, hcs, hr, hv⟩, hm⟩ := hh.at HL.out
      have hsh := hh.fine.short (mem_of_look HL.out)
      simp only at hsh
      have c0 := (hcs 0 (by omega)).1
      have f0 := (hcs 0 (by omega)).2
      simp only [fileCell] at c0
      have hlf : left D = D.room - total D.files := rfl
      have hro := hh.fine.room
      obtain ⟨v', w2, hr2, ho2, hk2, hv2⟩ := append_B w1 v F.bytes s hr (by have := HLT.out; omega)
      have hfi := hh.fine.set (G := ⟨F.bytes ++ s, F.sure, F.fresh⟩) HL.out (by have := hh.fine.sure _ (mem_of_look HL.out); simp only [List.length_append] at this ⊢; omega) (by have := HLT.out; have := hh.fine.fits; simp only [List.length_append]; omega)
      obtain ⟨⟨tag', h4⟩, k4, c0', f0'⟩ := hh.appended (F' := ⟨F.bytes ++ s, F.sure, F.fresh⟩) HL.out hcs hv ho2 hk2 hv2 rfl rfl hfi
      have HR2 := Lib.hid hr2
      clear hr2
      have H4 := Lib.hid h4
      have K4 := Lib.hid ((Kept.of_below (T := T) hb1).trans k4 (fun i hi => .inl (HM.out i hi)))
      have Z4 := Lib.hid k4.size
      have HS4 := Lib.hid (show still (withFile D (keyS n) ⟨F.bytes ++ s, F.sure, F.fresh⟩) = false from HS.out)
      obtain ⟨p, cap, rfl, -⟩ := own_take hr (Nat.le_refl _)
      obtain ⟨p2, cap2, rfl, -⟩ := own_take ho2 (Nat.le_refl _)
      have hlen : (F.bytes ++ s).length = F.bytes.length + s.length := List.length_append
      rw [hlen] at HR2 H4 K4 Z4
      clear hlen
      clear hb1 hh hcs hr hv hm ho2 hk2 hv2 hfi h4 k4 hsh hlf hro f0
      generalize blk (keyS n) = fb at *
      go_wp2_with (at_builtin; refine wpList_append_run2 rfl _ _ _ _ rfl rfl rfl HR2.out ?_)
      with_reducible refine (Done_f H4.out HS4.out).mono ?_
      rintro e w4 ⟨rfl, h5, k5⟩
      have H5 := Lib.hid h5
      have K5 := Lib.hid (K4.out.trans (k5.mono (T' := T) (fun i hi => by rw [hi]; exact HB.out)) (fun _ h => .inl h))
      have Z5 := Lib.hid k5.size
      clear h5 k5
      go_wp2
      go_ret
      rw [HE.out]
      refine ⟨rfl, ⟨_, _, _, H5.out.wide (fun i hi => ?_) (fun i hi => ?_)⟩, K5.out⟩
      · rcases hi with hi | hi
        · exact .inl hi
        · exact .inr ⟨Nat.le_trans HB1.out.size hi.1, Nat.lt_of_lt_of_le hi.2 Z5.out⟩
      · rcases hi with hi | hi
        · exact Nat.lt_of_lt_of_le (H.out.old i hi) K5.out.size
        · exact hi.2
end Go.Proofs.YtpiaplgbpjgjiaaDoor.Dk
