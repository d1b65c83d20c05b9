/-
  The two disks beside each other (layers 7, 8): the walk of Alike. Conditions: both are the call's own, and hold the same.
-/
import Derived.Test.YtpiaplgbpjgjiaaGreatDoorZLpPair
import Derived.Test.YtpiaplgbpjgjiaaGreatDoorZLpRefK
import Derived.Test.YtpiaplgbpjgjiaaGreatDoorZDkB
open Go Go.RowKit
namespace Go.Proofs.YtpiaplgbpjgjiaaGreatDoor.Lp
open Base Mp Dk Frame Lg

theorem names_zero {D : DiskD} (h : D.files = []) : namesD D = [] := by
  unfold namesD
  rw [h, List.map_nil, List.perm_nil.1 (srt_perm [])]
set_option maxRecDepth 100000 in
set_option maxHeartbeats 2000000 in
theorem Alike0_f {w0 w : World} {b rb g cap : Nat} {D : DiskD} {T R : Nat → Prop} (hp : DX w0 w b D T) (hd : RDAt w rb g cap D none R) : Calls Tryz.prog 17 #[.pointer (some ⟨b, 0, none⟩), .pointer (some ⟨rb, 0, none⟩)] w fun e w' => e = .returned (.bool true) ∧ Below w.heap.size w w' := by
  have HN := Lib.hid (sNames hp.dw)
  rw [names_zero (show D.files = [] from hd.fs)] at HN
  simp only [List.length_nil] at HN
  have HP := Lib.hid hp
  have HD := Lib.hid hd
  clear hp hd
  go_enter Tryz.func17, Tryz.ntmps17
  go_wp2_with fail
  with_reducible refine HN.out.mono ?_
  rintro e w1 ⟨p, pc, rfl, -, hb1⟩
  have HB1 := Lib.hid hb1
  have HD1 := Lib.hid (HD.out.later hb1)
  have HR := Lib.hid (Room_f (HP.out.later hb1).dk)
  have c1 : w1.cell? ⟨rb, 1, none⟩ = some (.slice none 0 0) := HD1.out.c1
  clear hb1 HN
  go_wp2_with fail
  with_reducible refine HR.out.mono ?_
  rintro e w2 ⟨rfl, hw2⟩
  have hb2 := hw2
  have HB2 := Lib.hid (HB1.out.trans (hb2.mono HB1.out.size))
  have HR2 := Lib.hid (RRoom_f (HD1.out.later hb2))
  clear hw2 hb2 HR c1
  go_wp2_with fail
  with_reducible refine HR2.out.mono ?_
  rintro e w3 ⟨rfl, rfl⟩
  clear HR2
  go_wp2_with fail
  go_loopw [6] (fun u wr => u = .int .i64 0 ∧ wr = w3) (fun _ _ => 0)
  case atStart => exact ⟨rfl, rfl⟩
  case round =>
    obtain ⟨rfl, rfl⟩ := hrel
    go_wp2
    go_ret
    exact ⟨rfl, HB2.out⟩
set_option maxRecDepth 100000 in
set_option maxHeartbeats 2000000 in
theorem Alike1_f {w0 w : World} {b rb g cap : Nat} {D : DiskD} {F : FileD} {T R : Nat → Prop} (hp : DX w0 w b D T) (hd : RDAt w rb g cap D (some F) R) : Calls Tryz.prog 17 #[.pointer (some ⟨b, 0, none⟩), .pointer (some ⟨rb, 0, none⟩)] w fun e w' => e = .returned (.bool true) ∧ Below w.heap.size w w' := by
  have HN := Lib.hid (sNames hp.dw)
  rw [names_one D F (show D.files = [(keyS nA, F)] from hd.fs)] at HN
  simp only [List.length_cons, List.length_nil, Nat.zero_add] at HN
  have HRD := Lib.hid (show readD D nA = (F.bytes, 0) by unfold readD findD; rw [hd.look])
  have HLO := Lib.hid (show looseD D nA = F.bytes.length - F.sure by unfold looseD findD; rw [hd.look])
  have HP := Lib.hid hp
  have HD := Lib.hid hd
  clear hp hd
  go_enter Tryz.func17, Tryz.ntmps17
  go_wp2_with fail
  with_reducible refine HN.out.mono ?_
  rintro e w1 ⟨p, pc, rfl, hrow, hb1⟩
  obtain ⟨gn, rfl, -, hgn, hcn⟩ := hrow 0 (by decide)
  have hcn2 : w1.cell? ⟨gn, 0, none⟩ = some (.string (B nA)) := hcn
  have HCN := Lib.hid (And.intro hgn hcn2)
  have HB1 := Lib.hid hb1
  have HD1 := Lib.hid (HD.out.later hb1)
  have HP1 := Lib.hid (HP.out.later hb1)
  have HR := Lib.hid (Room_f (HP.out.later hb1).dk)
  have c1 : w1.cell? ⟨rb, 1, none⟩ = some (.slice (some ⟨g, 0, none⟩) 1 cap) := HD1.out.c1
  clear hb1 HN hrow hgn hcn hcn2
  go_wp2_with fail
  with_reducible refine HR.out.mono ?_
  rintro e w2 ⟨rfl, hw2⟩
  have hb2 := hw2
  have HB2 := Lib.hid hb2
  have HR2 := Lib.hid (RRoom_f (HD1.out.later hb2))
  clear hw2 hb2 HR c1
  go_wp2_with fail
  with_reducible refine HR2.out.mono ?_
  rintro e w3 ⟨rfl, rfl⟩
  clear HR2
  go_wp2_with fail
  go_loopw [6] (fun u wr => (u = .int .i64 0 ∨ u = .int .i64 1) ∧ Below w1.heap.size w1 wr) (fun u _ => 1 - (intOf u).toNat)
  case atStart => exact ⟨.inl rfl, HB2.out⟩
  case round =>
    obtain ⟨rfl | rfl, hb4⟩ := hrel
    · have h4 := HD1.out.later hb4
      obtain ⟨d0, d1, d2, d3, -, -, -, -⟩ := h4.cells
      have c4 : wr.cell? ⟨rb, 1, none⟩ = some (.slice (some ⟨g, 0, none⟩) 1 cap) := h4.c1
      have n4 : wr.cell? ⟨gn, 0, none⟩ = some (.string (B nA)) := (hb4.cell (p := ⟨gn, 0, none⟩) HCN.out.1).trans HCN.out.2
      have hk := kRead (HP1.out.later hb4).dw nA (by decide)
      rw [HRD.out] at hk
      have HK := Lib.hid hk
      have HL := Lib.hid (fun n => rLoose ((HP1.out.later hb4).later ((Below.refl _ wr).drewN n)).dw nA (by decide))
      rw [HLO.out] at HL
      have HB4 := Lib.hid hb4
      clear h4 hb4 hk d3
      generalize F.bytes.length - F.sure = zl at *
      go_wp2_with fail
      with_reducible refine HK.out.mono ?_
      rintro e w5 ⟨rfl, rfl⟩
      clear HK
      go_wp2_with fail
      go_quiet (first | (go_at_call 27; exact Calls.quiet_of (HL.out _)))
      have HB5 := Lib.hid (HB4.out.trans (((Below.refl _ wr).drewN nq).mono HB4.out.size))
      clear HL HB4 d0 d1 d2 c4 n4
      generalize wr.drewN nq = w6 at *
      go_wp2
      go_roundw
      case rel => exact ⟨.inr (by go_num), HB5.out⟩
      case measure => simp [intOf]
    · have HB4 := Lib.hid hb4
      clear hb4
      go_wp2
      go_ret
      exact ⟨rfl, HB1.out.trans (HB4.out.mono HB1.out.size)⟩
theorem Alike_f {w0 w : World} {b rb g cap : Nat} {D : DiskD} {o : Option FileD} {T R : Nat → Prop} (hp : DX w0 w b D T) (hd : RDAt w rb g cap D o R) : Calls Tryz.prog 17 #[.pointer (some ⟨b, 0, none⟩), .pointer (some ⟨rb, 0, none⟩)] w fun e w' => e = .returned (.bool true) ∧ Below w.heap.size w w' := by
  cases o with
  | none => exact Alike0_f hp hd
  | some F => exact Alike1_f hp hd
end Go.Proofs.YtpiaplgbpjgjiaaGreatDoor.Lp
