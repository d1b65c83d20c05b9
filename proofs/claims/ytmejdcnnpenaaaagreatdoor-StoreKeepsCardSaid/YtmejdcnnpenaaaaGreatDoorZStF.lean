/-
  Stores (layer 9): the walks of whole and find: a disk's number, and its snapshot. No condition but what each says.
-/
import Derived.Test.YtmejdcnnpenaaaaGreatDoorZStFormat
import Derived.Test.YtmejdcnnpenaaaaGreatDoorZLgA

section
open Go Go.RowKit
namespace Go.Proofs.YtmejdcnnpenaaaaGreatDoor.St
open Base Mp Dk Frame Lg

/-- The snapshot that a file has, if it is whole. -/
def wholeD (D : DiskD) (f : Key) : Option Key := match lookL D.files (keyS f) with
  | none => none
  | some F => if (cut F.bytes).2.2 = 0 ∧ (cut F.bytes).2.1 = [] then some (cut F.bytes).1 else none
/-- The file is a store's. -/
inductive Mine (f : Key) : Prop where
  | snap (n : Nat) (hn : n ≤ 18446744073709551609) (h : f = snapN n)
  | log (n : Nat) (hn : n ≤ 18446744073709551609) (h : f = logN n)
theorem log_not_snap (n : Nat) : Lib.hasPrefix (logN n) snaps = false := by
  unfold Lib.hasPrefix logN logs snaps
  rfl
theorem snap_not_log (n : Nat) : Lib.hasPrefix (snapN n) logs = false := by
  unfold Lib.hasPrefix snapN logs snaps
  rfl
/-- One name more is looked at. -/
def find1 (D : DiskD) (st : Nat × Key) (f : Key) : Nat × Key := match numOf snaps f with
  | none => st
  | some m => if m ≤ st.1 then st else match wholeD D f with
    | none => st
    | some t => (m, t)
def findS (D : DiskD) : Nat × Key := (namesD D).foldl (find1 D) (0, [])
theorem num_own (h : Key) (n : Nat) (hn : n ≤ 18446744073709551609) : numOf h (h ++ dec20 n) = some n := by
  unfold numOf
  rw [if_pos ⟨(prefix_own h _).1, by rw [(prefix_own h _).2]; exact dec20_len (by omega)⟩, (prefix_own h _).2, parse20 (by omega)]
  exact if_pos hn
theorem num_no {h f : Key} (hp : Lib.hasPrefix f h = false) : numOf h f = none := by
  unfold numOf
  rw [if_neg (fun e => by rw [hp] at e; cases e.1)]
/-- number, of a store's file. -/
theorem Number_snap {f : Key} (hf : Mine f) (w : World) : Calls Tryz.prog 48 #[.string (B f), .string (B snaps)] w fun e w' => e = .returned (.tuple #[.int .u64 ((numOf snaps f).getD 0 : Nat), .bool (numOf snaps f).isSome]) ∧ Below w.heap.size w w' := by
  cases hf with
  | snap n hn h => subst h; unfold snapN; rw [num_own snaps n hn]; exact Number_yes snaps n hn w
  | log n hn h =>
    subst h; rw [num_no (log_not_snap n)]
    refine (Number_no (logN n) snaps (log_not_snap n) w).mono ?_
    rintro e w' ⟨rfl, rfl⟩
    exact ⟨rfl, Below.refl _ _⟩
theorem Number_log {f : Key} (hf : Mine f) (w : World) : Calls Tryz.prog 48 #[.string (B f), .string (B logs)] w fun e w' => e = .returned (.tuple #[.int .u64 ((numOf logs f).getD 0 : Nat), .bool (numOf logs f).isSome]) ∧ Below w.heap.size w w' := by
  cases hf with
  | log n hn h => subst h; unfold logN; rw [num_own logs n hn]; exact Number_yes logs n hn w
  | snap n hn h =>
    subst h; rw [num_no (snap_not_log n)]
    refine (Number_no (snapN n) logs (snap_not_log n) w).mono ?_
    rintro e w' ⟨rfl, rfl⟩
    exact ⟨rfl, Below.refl _ _⟩
set_option maxRecDepth 100000 in
theorem Whole_f {w : World} {b : Nat} {D : DiskD} {T : Nat → Prop} (h : DiskAt w b D T) (f : Key) (hf : f.length ≤ maxLen) (hT : Crc.TabOk w) : Calls Tryz.prog 49 #[.pointer (some ⟨b, 0, none⟩), .string (B f)] w fun e w' => e = .returned (.tuple #[.string (B ((wholeD D f).getD [])), .bool (wholeD D f).isSome]) ∧ ∃ m, w' = w.drewN m := by
  have C1 := Lib.hid (Read_f h f hf)
  unfold readD findD at C1
  cases hl : lookL D.files (keyS f) with
  | none =>
    have HW := Lib.hid (show wholeD D f = none by unfold wholeD; rw [hl])
    rw [hl] at C1
    clear hl h hT hf
    go_enter Tryz.func49, Tryz.ntmps49
    go_wp2_with fail
    refine C1.out.mono ?_
    rintro e w1 ⟨rfl, rfl⟩
    go_wp2
    go_ret2
    rw [HW.out]
    exact ⟨rfl, 0, rfl⟩
  | some F =>
    rw [hl] at C1
    obtain ⟨tag, blk, bm, h2⟩ := h
    have hsh := h2.fine.short (mem_of_look hl)
    simp only at hsh
    have C2 := Lib.hid (Cut_calls F.bytes w (by unfold maxLen; omega) hT)
    have HW := Lib.hid (show wholeD D f = if (cut F.bytes).2.2 = 0 ∧ (cut F.bytes).2.1 = [] then some (cut F.bytes).1 else none by unfold wholeD; rw [hl])
    clear hl h2 hT hf hsh
    generalize cut F.bytes = c at C2 HW
    obtain ⟨t, r, k⟩ := c
    by_cases hk : k = 0
    · subst hk
      by_cases hr : r = []
      · subst hr
        have HV := Lib.hid (show wholeD D f = some t by rw [HW.out]; exact if_pos ⟨rfl, rfl⟩)
        clear HW
        go_enter Tryz.func49, Tryz.ntmps49
        go_wp2_with fail
        refine C1.out.mono ?_
        rintro e w1 ⟨rfl, rfl⟩
        go_wp2_with fail
        refine C2.out.mono ?_
        rintro e w1 ⟨rfl, m, rfl⟩
        go_wp2
        go_ret2
        rw [HV.out]
        exact ⟨rfl, m, rfl⟩
      · have HV := Lib.hid (show wholeD D f = none by rw [HW.out]; exact if_neg fun e => hr e.2)
        clear HW
        have q : r.isEmpty = false := by simpa using hr
        go_enter Tryz.func49, Tryz.ntmps49
        go_wp2_with fail
        refine C1.out.mono ?_
        rintro e w1 ⟨rfl, rfl⟩
        go_wp2_with fail
        refine C2.out.mono ?_
        rintro e w1 ⟨rfl, m, rfl⟩
        go_wp2
        go_ret2
        rw [HV.out]
        exact ⟨rfl, m, rfl⟩
    · have HV := Lib.hid (show wholeD D f = none by rw [HW.out]; exact if_neg fun e => hk e.1)
      clear HW
      have q : (((k : Nat) : Int) != 0) = true := by simpa using hk
      clear hk
      go_enter Tryz.func49, Tryz.ntmps49
      go_wp2_with fail
      refine C1.out.mono ?_
      rintro e w1 ⟨rfl, rfl⟩
      go_wp2_with fail
      refine C2.out.mono ?_
      rintro e w1 ⟨rfl, m, rfl⟩
      go_wp2
      go_ret2
      rw [HV.out]
      exact ⟨rfl, m, rfl⟩
end Go.Proofs.YtmejdcnnpenaaaaGreatDoor.St
end

/-
  Stores (layer 9): the walk of find: a disk's number, and its snapshot. The condition: the disk has a store's files alone.
-/
section
open Go Go.RowKit
namespace Go.Proofs.YtmejdcnnpenaaaaGreatDoor.St
open Base Mp Dk Frame Lg

set_option maxRecDepth 100000 in
set_option maxHeartbeats 4000000 in
theorem Find_f {w : World} {b : Nat} {D : DiskD} {T : Nat → Prop} (h : DiskAt w b D T) (hM : ∀ f ∈ namesD D, Mine f) (hT : Crc.TabOk w) : Calls Tryz.prog 22 #[.pointer (some ⟨b, 0, none⟩)] w fun e w' => e = .returned (.tuple #[.int .u64 ((findS D).1 : Nat), .string (B (findS D).2)]) ∧ Below w.heap.size w w' := by
  have HNM := Lib.hid (Names_f h)
  have H := Lib.hid h
  have HM := Lib.hid hM
  have HT := Lib.hid hT
  have hfine : Fine D := by obtain ⟨_, _, _, h2⟩ := h; exact h2.fine
  have hnl2 : (namesD D).length ≤ 16 := by rw [names_len]; exact hfine.few
  have HF := Lib.hid hfine
  have HS := Lib.hid (show findS D = ((namesD D).take (namesD D).length).foldl (find1 D) (0, []) by rw [List.take_length]; rfl)
  clear h hM hT hfine
  go_enter Tryz.func22, Tryz.ntmps22
  go_wp2_with fail
  with_reducible refine HNM.out.mono ?_
  rintro e w1 ⟨v, rfl, hrow, hb1⟩
  obtain ⟨q, cq, rfl, hq⟩ := names_form hrow
  have HQ := Lib.hid hq
  have HB1 := Lib.hid hb1
  clear hrow hq hb1 HNM
  obtain ⟨nl, hnl⟩ : ∃ nl, nl = (namesD D).length := ⟨_, rfl⟩
  rw [← hnl] at hnl2 HS ⊢
  have HNL := Lib.hid hnl
  clear hnl
  go_wp2_with fail
  go_loopw [2, 3, 13] (fun n t u wr => ∃ (i : Nat) (st : Nat × Key), u = .int .i64 (i : Int) ∧ i ≤ nl ∧ st = ((namesD D).take i).foldl (find1 D) (0, []) ∧ n = .int .u64 (st.1 : Nat) ∧ t = .string (B st.2) ∧ Below w1.heap.size w1 wr) (fun _ _ u _ => nl - (intOf u).toNat)
  case atStart => exact ⟨0, (0, []), rfl, Nat.zero_le _, rfl, rfl, rfl, Below.refl _ _⟩
  case round =>
    obtain ⟨i, st, rfl, hi, hst, rfl, rfl, hbr⟩ := hrel
    by_cases hil : i < nl
    · have hil2 : i < (namesD D).length := by rw [← HNL.out]; exact hil
      obtain ⟨gq, rfl, hgq1, hgq2, hcq⟩ := HQ.out i hil2
      have hcw : wr.cell? ⟨gq, i, none⟩ = some (.string (B (namesD D)[i])) := (hbr.cell (p := ⟨gq, i, none⟩) hgq2).trans hcq
      have m0 : 0 ≤ (i : Int) := by omega
      have m1 : (i : Int) < (nl : Int) := by omega
      have HST := Lib.hid (show ((namesD D).take (i + 1)).foldl (find1 D) (0, []) = find1 D st (namesD D)[i] by rw [List.take_succ_eq_append_getElem hil2, List.foldl_append, ← hst]; rfl)
      have hmine := HM.out _ (List.getElem_mem hil2)
      obtain ⟨F, hF, hnl40⟩ := HF.out.has (List.getElem_mem hil2)
      have C1 := Lib.hid (Number_snap hmine wr)
      have HBR := Lib.hid hbr
      have hbw : Below w.heap.size w wr := HB1.out.trans (hbr.mono HB1.out.size)
      have HBW := Lib.hid hbw
      clear hst hF hcq hgq1 hgq2 hmine hbr hbw
      generalize (namesD D)[i] = nm at *
      have hnmx : nm.length ≤ maxLen := by unfold maxLen; omega
      have C2 : Hid (∀ W, Below wr.heap.size wr W → Calls Tryz.prog 49 #[.pointer (some ⟨b, 0, none⟩), .string (B nm)] W fun e w' => e = .returned (.tuple #[.string (B ((wholeD D nm).getD [])), .bool (wholeD D nm).isSome]) ∧ ∃ m, w' = W.drewN m) := Lib.hid fun W hW => by
        have hB : Below w.heap.size w W := HBW.out.trans (hW.mono HBW.out.size)
        exact Whole_f (H.out.next (Kept.of_below hB)) nm hnmx (HT.out.next hB)
      clear hnmx hnl40
      cases hnum : numOf snaps nm with
      | none =>
        have HX := Lib.hid (show find1 D st nm = st by unfold find1; rw [hnum])
        rw [hnum] at C1
        clear hnum C2
        go_wp2_with fail
        refine C1.out.mono ?_
        rintro e w2 ⟨rfl, hb2⟩
        have HB2 := Lib.hid hb2
        clear hb2 C1
        go_wp2
        go_roundw
        case rel => exact ⟨i + 1, st, by go_num, by omega, by rw [HST.out, HX.out], rfl, rfl, HBR.out.trans (HB2.out.mono HBR.out.size)⟩
        case measure => simp [intOf]; omega
      | some m =>
        by_cases hm : m ≤ st.1
        · have HX := Lib.hid (show find1 D st nm = st by unfold find1; rw [hnum]; exact if_pos hm)
          rw [hnum] at C1
          have hmI : (m : Int) ≤ (st.1 : Int) := by omega
          clear hnum C2 hm
          go_wp2_with fail
          refine C1.out.mono ?_
          rintro e w2 ⟨rfl, hb2⟩
          have HB2 := Lib.hid hb2
          clear hb2 C1
          go_wp2
          go_roundw
          case rel => exact ⟨i + 1, st, by go_num, by omega, by rw [HST.out, HX.out], rfl, rfl, HBR.out.trans (HB2.out.mono HBR.out.size)⟩
          case measure => simp [intOf]; omega
        · cases hwh : wholeD D nm with
          | none =>
            have HX := Lib.hid (show find1 D st nm = st by unfold find1; rw [hnum]; simp only []; rw [if_neg hm, hwh])
            rw [hnum] at C1
            rw [hwh] at C2
            have hmI : ¬ (m : Int) ≤ (st.1 : Int) := by omega
            clear hnum hm hwh
            go_wp2_with fail
            refine C1.out.mono ?_
            rintro e w2 ⟨rfl, hb2⟩
            have HB2 := Lib.hid hb2
            clear hb2 C1
            go_wp2_with fail
            with_reducible refine (C2.out w2 HB2.out).mono ?_
            rintro e w3 ⟨rfl, k, rfl⟩
            go_wp2
            go_roundw
            case rel => exact ⟨i + 1, st, by go_num, by omega, by rw [HST.out, HX.out], rfl, rfl, HBR.out.trans ((HB2.out.trans (Below.drewN (Below.refl _ _) k)).mono HBR.out.size)⟩
            case measure => simp [intOf]; omega
          | some t =>
            have HX := Lib.hid (show find1 D st nm = (m, t) by unfold find1; rw [hnum]; simp only []; rw [if_neg hm, hwh])
            rw [hnum] at C1
            rw [hwh] at C2
            have hmI : ¬ (m : Int) ≤ (st.1 : Int) := by omega
            clear hnum hm hwh
            go_wp2_with fail
            refine C1.out.mono ?_
            rintro e w2 ⟨rfl, hb2⟩
            have HB2 := Lib.hid hb2
            clear hb2 C1
            go_wp2_with fail
            with_reducible refine (C2.out w2 HB2.out).mono ?_
            rintro e w3 ⟨rfl, k, rfl⟩
            go_wp2
            go_roundw
            case rel => exact ⟨i + 1, (m, t), by go_num, by omega, by rw [HST.out, HX.out], rfl, rfl, HBR.out.trans ((HB2.out.trans (Below.drewN (Below.refl _ _) k)).mono HBR.out.size)⟩
            case measure => simp [intOf]; omega
    · have hii : i = nl := by omega
      have HZ := Lib.hid (show findS D = st by rw [HS.out, hst, hii])
      have HBR := Lib.hid hbr
      have hge : ¬ (i : Int) < (nl : Int) := by omega
      clear hst hii hbr
      go_wp2
      go_ret2
      rw [HZ.out]
      exact ⟨rfl, HB1.out.trans (HBR.out.mono HB1.out.size)⟩
end Go.Proofs.YtmejdcnnpenaaaaGreatDoor.St
end

/-
  Stores (layer 9): the walk of clean: all files of stores go but those of a number. The condition: the disk has a store's files alone.
-/
section
open Go Go.RowKit
namespace Go.Proofs.YtmejdcnnpenaaaaGreatDoor.St
open Base Mp Dk Frame Lg

/-- The file stays. -/
def stays (n : Nat) (f : Key) : Bool := match numOf snaps f with
  | some m => decide (m = n) && decide (0 < n)
  | none => match numOf logs f with
    | some k => decide (k = n)
    | none => true
def clean1 (n : Nat) (st : DiskD × Int) (f : Key) : DiskD × Int := if st.2 ≠ 0 then st else if stays n f = true then st else removeD st.1 f
def cleanS (D : DiskD) (n : Nat) : DiskD × Int := (namesD D).foldl (clean1 n) (D, 0)
theorem clean_stop (n : Nat) (l : List Key) (st : DiskD × Int) (h : st.2 ≠ 0) : l.foldl (clean1 n) st = st := by
  induction l with
  | nil => rfl
  | cons f r ih => rw [List.foldl_cons, show clean1 n st f = st from if_pos h, ih]
/-- The disk, and what was not its own is as it was. -/
structure CleanAt (w0 w wr : World) (b : Nat) (T : Nat → Prop) (D : DiskD) : Prop where
  dx : ∃ T', DX w0 wr b D T' ∧ ∀ i, T' i → T i ∨ (w.heap.size ≤ i ∧ i < wr.heap.size)
  kept : Kept T w wr
theorem CleanAt.later {w0 w wr w' : World} {b : Nat} {T : Nat → Prop} {D : DiskD} (h : CleanAt w0 w wr b T D) (hb : Below wr.heap.size wr w') : CleanAt w0 w w' b T D := by
  obtain ⟨⟨T', hx, hT⟩, hk⟩ := h
  exact ⟨⟨T', hx.later hb, fun i hi => (hT i hi).imp id fun e => ⟨e.1, Nat.lt_of_lt_of_le e.2 hb.size⟩⟩, hk.trans (Kept.of_below (T := T) hb) fun i hi => .inl hi⟩
theorem CleanAt.back {w0 w w1 wr : World} {b : Nat} {T : Nat → Prop} {D : DiskD} (h : CleanAt w0 w1 wr b T D) (hb : Below w.heap.size w w1) : CleanAt w0 w wr b T D := by
  obtain ⟨⟨T', hx, hT⟩, hk⟩ := h
  exact ⟨⟨T', hx, fun i hi => (hT i hi).imp id fun e => ⟨Nat.le_trans hb.size e.1, e.2⟩⟩, (Kept.of_below (T := T) hb).trans hk fun i hi => .inl hi⟩
theorem CleanAt.op {w0 w wr w' : World} {b : Nat} {T T' : Nat → Prop} {D' : DiskD} (hk : Kept T w wr) (hT : ∀ i, T' i → T i ∨ (w.heap.size ≤ i ∧ i < wr.heap.size)) (hx : DX w0 w' b D' (More T' wr w')) (hk2 : Kept T' wr w') : CleanAt w0 w w' b T D' := by
  refine ⟨⟨_, hx, fun i hi => ?_⟩, hk.trans hk2 fun i hi => (hT i hi).imp id (fun e => e.1)⟩
  rcases hi with hi | hi
  · exact (hT i hi).imp id fun e => ⟨e.1, Nat.lt_of_lt_of_le e.2 hk2.size⟩
  · exact .inr ⟨Nat.le_trans hk.size hi.1, hi.2⟩
theorem Remove_c {w0 w wr : World} {b : Nat} {T : Nat → Prop} {D : DiskD} (h : CleanAt w0 w wr b T D) (f : Key) (hf : f.length ≤ maxLen) : Calls Tryz.prog 55 #[.pointer (some ⟨b, 0, none⟩), .string (B f)] wr fun e w' => e = .returned (.int .i64 (removeD D f).2) ∧ CleanAt w0 w w' b T (removeD D f).1 := by
  obtain ⟨⟨T', hx, hT⟩, hk⟩ := h
  refine (hx.op (Remove_f hx.dk f hf)).mono ?_
  rintro e w' ⟨he, h1, h2⟩
  exact ⟨he, CleanAt.op hk hT h1 h2⟩
/-- What the two numbers of a name tell. -/
theorem mine_nums {f : Key} (hf : Mine f) : (∃ m, m ≤ 18446744073709551609 ∧ numOf snaps f = some m ∧ numOf logs f = none) ∨ ∃ k, k ≤ 18446744073709551609 ∧ numOf snaps f = none ∧ numOf logs f = some k := by
  cases hf with
  | snap n hn h => subst h; exact .inl ⟨n, hn, num_own snaps n hn, num_no (snap_not_log n)⟩
  | log n hn h => subst h; exact .inr ⟨n, hn, num_no (log_not_snap n), num_own logs n hn⟩
set_option maxRecDepth 100000 in
set_option maxHeartbeats 4000000 in
theorem Clean_f {w0 w : World} {b : Nat} {D : DiskD} {T : Nat → Prop} (h : DX w0 w b D T) (hM : ∀ f ∈ namesD D, Mine f) (n : Nat) (hn : n ≤ 18446744073709551609) (hn0 : 0 < n) : Calls Tryz.prog 29 #[.pointer (some ⟨b, 0, none⟩), .int .u64 (n : Nat)] w fun e w' => e = .returned (.int .i64 (cleanS D n).2) ∧ CleanAt w0 w w' b T (cleanS D n).1 := by
  have HNM := Lib.hid (Names_f h.dk)
  have H := Lib.hid h
  have HM := Lib.hid hM
  have hfine := h.fine
  have hnl2 : (namesD D).length ≤ 16 := by rw [names_len]; exact hfine.few
  have HF := Lib.hid hfine
  have HS := Lib.hid (show cleanS D n = ((namesD D).take (namesD D).length).foldl (clean1 n) (D, 0) by rw [List.take_length]; rfl)
  have HO := Lib.hid (show ∀ i, T i → i < w.heap.size from h.old)
  have n0 : 0 ≤ (n : Int) := by omega
  clear h hM hfine
  go_enter Tryz.func29, Tryz.ntmps29
  go_wp2_with fail
  with_reducible refine HNM.out.mono ?_
  rintro e w1 ⟨v, rfl, hrow, hb1⟩
  obtain ⟨q, cq, rfl, hq⟩ := names_form hrow
  have HQ := Lib.hid hq
  have HB1 := Lib.hid hb1
  clear hrow hq hb1 HNM
  obtain ⟨nl, hnl⟩ : ∃ nl, nl = (namesD D).length := ⟨_, rfl⟩
  rw [← hnl] at hnl2 HS ⊢
  have HNL := Lib.hid hnl
  clear hnl
  go_wp2_with fail
  go_loopw [15] (fun u wr => ∃ (i : Nat) (E : DiskD), u = .int .i64 (i : Int) ∧ i ≤ nl ∧ (E, (0 : Int)) = ((namesD D).take i).foldl (clean1 n) (D, 0) ∧ CleanAt w0 w1 wr b T E) (fun u _ => nl - (intOf u).toNat)
  case atStart => exact ⟨0, D, rfl, Nat.zero_le _, rfl, ⟨⟨T, H.out.later HB1.out, fun i hi => .inl hi⟩, Kept.refl _ _⟩⟩
  case round =>
    obtain ⟨i, E, rfl, hi, hst, hca⟩ := hrel
    have hkt := hca.kept
    by_cases hil : i < nl
    · have hil2 : i < (namesD D).length := by rw [← HNL.out]; exact hil
      obtain ⟨gq, rfl, hgq1, hgq2, hcq⟩ := HQ.out i hil2
      have hcw : wr.cell? ⟨gq, i, none⟩ = some (.string (B (namesD D)[i])) := (World.cell?_of_block (a := ⟨gq, i, none⟩) (hkt.block gq hgq2 (fun ht => by have := HO.out gq ht; omega))).trans hcq
      have m0 : 0 ≤ (i : Int) := by omega
      have m1 : (i : Int) < (nl : Int) := by omega
      have HST := Lib.hid (show ((namesD D).take (i + 1)).foldl (clean1 n) (D, 0) = clean1 n (E, 0) (namesD D)[i] by rw [List.take_succ_eq_append_getElem hil2, List.foldl_append, ← hst]; rfl)
      have hmine := HM.out _ (List.getElem_mem hil2)
      obtain ⟨F, hF, hnl40⟩ := HF.out.has (List.getElem_mem hil2)
      have HSTOP := Lib.hid (show ∀ r : DiskD × Int, r.2 ≠ 0 → clean1 n (E, 0) (namesD D)[i] = r → cleanS D n = r from fun r hr he => by
        have h1 : namesD D = (namesD D).take (i + 1) ++ (namesD D).drop (i + 1) := (List.take_append_drop _ _).symm
        unfold cleanS
        rw [h1, List.foldl_append, HST.out, he, clean_stop n _ r hr])
      have HCA := Lib.hid hca
      clear hst hF hcq hgq1 hgq2 hca hkt
      generalize (namesD D)[i] = nm at *
      have C1 := Lib.hid (Number_snap hmine wr)
      have C2 := Lib.hid (Number_log hmine)
      have CR : Hid (∀ W, CleanAt w0 w1 W b T E → Calls Tryz.prog 55 #[.pointer (some ⟨b, 0, none⟩), .string (B nm)] W fun e w' => e = .returned (.int .i64 (removeD E nm).2) ∧ CleanAt w0 w1 w' b T (removeD E nm).1) := Lib.hid fun W hW => Remove_c hW nm (by unfold maxLen; omega)
      clear hnl40
      rcases mine_nums hmine with ⟨m, hm9, hs, hl⟩ | ⟨m, hm9, hs, hl⟩
      · by_cases hst : m = n ∧ 0 < n
        · obtain ⟨hmn, hp⟩ := hst
          rw [hmn] at hs
          clear hmn hm9
          have HX := Lib.hid (show stays n nm = true by unfold stays; rw [hs]; simp only []; simp [hp])
          rw [hs] at C1
          rw [hl] at C2
          have hp2 : 0 < (n : Int) := by omega
          clear hs hl hmine
          go_wp2_with fail
          refine C1.out.mono ?_
          rintro e w2 ⟨rfl, hb2⟩
          have HB2 := Lib.hid hb2
          clear hb2 C1
          go_wp2_with fail
          refine (C2.out w2).mono ?_
          rintro e w3 ⟨rfl, hb3⟩
          have HB3 := Lib.hid hb3
          clear hb3 C2
          have HC3 := Lib.hid ((HCA.out.later HB2.out).later HB3.out)
          go_wp2
          go_roundw
          case rel => exact ⟨i + 1, E, by go_num, by omega, by rw [HST.out]; unfold clean1; rw [if_neg (by simp), if_pos HX.out], HC3.out⟩
          case measure => simp [intOf]; omega
        · by_cases hmn : m = n
          · exact absurd ⟨hmn, hn0⟩ hst
          · have hne : ((m : Int) == (n : Int)) = false := by simpa using (by omega : ¬ (m : Int) = (n : Int))
            have HX := Lib.hid (show stays n nm = false by unfold stays; rw [hs]; simp only []; simp [hmn])
            rw [hs] at C1
            rw [hl] at C2
            clear hst hmn
            clear hs hl hmine
            have HR := Lib.hid (show clean1 n (E, 0) nm = removeD E nm by unfold clean1; rw [if_neg (by simp), if_neg (by rw [HX.out]; simp)])
            generalize removeD E nm = r at CR HR
            obtain ⟨E2, c⟩ := r
            by_cases hc : c = 0
            · subst hc
              go_wp2_with fail
              refine C1.out.mono ?_
              rintro e w2 ⟨rfl, hb2⟩
              have HB2 := Lib.hid hb2
              clear hb2 C1
              go_wp2_with fail
              refine (C2.out w2).mono ?_
              rintro e w3 ⟨rfl, hb3⟩
              have HB3 := Lib.hid hb3
              clear hb3 C2
              have HC3 := Lib.hid ((HCA.out.later HB2.out).later HB3.out)
              go_wp2_with fail
              refine (CR.out w3 HC3.out).mono ?_
              rintro e w4 ⟨rfl, hc4⟩
              have HC4 := Lib.hid hc4
              clear hc4
              go_wp2
              go_roundw
              case rel => exact ⟨i + 1, E2, by go_num, by omega, by rw [HST.out, HR.out], HC4.out⟩
              case measure => simp [intOf]; omega
            · have q : (c != 0) = true := by simpa using hc
              have HZ := Lib.hid (HSTOP.out (E2, c) hc HR.out)
              clear hc
              go_wp2_with fail
              refine C1.out.mono ?_
              rintro e w2 ⟨rfl, hb2⟩
              have HB2 := Lib.hid hb2
              clear hb2 C1
              go_wp2_with fail
              refine (C2.out w2).mono ?_
              rintro e w3 ⟨rfl, hb3⟩
              have HB3 := Lib.hid hb3
              clear hb3 C2
              have HC3 := Lib.hid ((HCA.out.later HB2.out).later HB3.out)
              go_wp2_with fail
              refine (CR.out w3 HC3.out).mono ?_
              rintro e w4 ⟨rfl, hc4⟩
              have HC4 := Lib.hid hc4
              clear hc4
              go_wp2
              go_ret
              rw [HZ.out]
              exact ⟨rfl, HC4.out.back HB1.out⟩
      · by_cases hmn : m = n
        · rw [hmn] at hl
          clear hmn hm9
          have HX := Lib.hid (show stays n nm = true by unfold stays; rw [hs]; simp only []; rw [hl]; simp)
          rw [hs] at C1
          rw [hl] at C2
          skip
          clear hs hl hmine
          go_wp2_with fail
          refine C1.out.mono ?_
          rintro e w2 ⟨rfl, hb2⟩
          have HB2 := Lib.hid hb2
          clear hb2 C1
          go_wp2_with fail
          refine (C2.out w2).mono ?_
          rintro e w3 ⟨rfl, hb3⟩
          have HB3 := Lib.hid hb3
          clear hb3 C2
          have HC3 := Lib.hid ((HCA.out.later HB2.out).later HB3.out)
          go_wp2
          go_roundw
          case rel => exact ⟨i + 1, E, by go_num, by omega, by rw [HST.out]; unfold clean1; rw [if_neg (by simp), if_pos HX.out], HC3.out⟩
          case measure => simp [intOf]; omega
        · have hne : ((m : Int) == (n : Int)) = false := by simpa using (by omega : ¬ (m : Int) = (n : Int))
          have HX := Lib.hid (show stays n nm = false by unfold stays; rw [hs]; simp only []; rw [hl]; simp [hmn])
          rw [hs] at C1
          rw [hl] at C2
          clear hmn
          clear hs hl hmine
          have HR := Lib.hid (show clean1 n (E, 0) nm = removeD E nm by unfold clean1; rw [if_neg (by simp), if_neg (by rw [HX.out]; simp)])
          generalize removeD E nm = r at CR HR
          obtain ⟨E2, c⟩ := r
          by_cases hc : c = 0
          · subst hc
            go_wp2_with fail
            refine C1.out.mono ?_
            rintro e w2 ⟨rfl, hb2⟩
            have HB2 := Lib.hid hb2
            clear hb2 C1
            go_wp2_with fail
            refine (C2.out w2).mono ?_
            rintro e w3 ⟨rfl, hb3⟩
            have HB3 := Lib.hid hb3
            clear hb3 C2
            have HC3 := Lib.hid ((HCA.out.later HB2.out).later HB3.out)
            go_wp2_with fail
            refine (CR.out w3 HC3.out).mono ?_
            rintro e w4 ⟨rfl, hc4⟩
            have HC4 := Lib.hid hc4
            clear hc4
            go_wp2
            go_roundw
            case rel => exact ⟨i + 1, E2, by go_num, by omega, by rw [HST.out, HR.out], HC4.out⟩
            case measure => simp [intOf]; omega
          · have q : (c != 0) = true := by simpa using hc
            have HZ := Lib.hid (HSTOP.out (E2, c) hc HR.out)
            clear hc
            go_wp2_with fail
            refine C1.out.mono ?_
            rintro e w2 ⟨rfl, hb2⟩
            have HB2 := Lib.hid hb2
            clear hb2 C1
            go_wp2_with fail
            refine (C2.out w2).mono ?_
            rintro e w3 ⟨rfl, hb3⟩
            have HB3 := Lib.hid hb3
            clear hb3 C2
            have HC3 := Lib.hid ((HCA.out.later HB2.out).later HB3.out)
            go_wp2_with fail
            refine (CR.out w3 HC3.out).mono ?_
            rintro e w4 ⟨rfl, hc4⟩
            have HC4 := Lib.hid hc4
            clear hc4
            go_wp2
            go_ret
            rw [HZ.out]
            exact ⟨rfl, HC4.out.back HB1.out⟩
    · have hii : i = nl := by omega
      have HZ := Lib.hid (show cleanS D n = (E, 0) by rw [HS.out, hst, hii])
      have HC := Lib.hid hca
      have hge : ¬ (i : Int) < (nl : Int) := by omega
      clear hst hii hca hkt
      go_wp2
      go_ret
      rw [HZ.out]
      exact ⟨rfl, HC.out.back HB1.out⟩
set_option maxRecDepth 100000 in
set_option maxHeartbeats 4000000 in
theorem Clean_0 {w0 w : World} {b : Nat} {D : DiskD} {T : Nat → Prop} (h : DX w0 w b D T) (hM : ∀ f ∈ namesD D, Mine f) : Calls Tryz.prog 29 #[.pointer (some ⟨b, 0, none⟩), .int .u64 0] w fun e w' => e = .returned (.int .i64 (cleanS D 0).2) ∧ CleanAt w0 w w' b T (cleanS D 0).1 := by
  have HNM := Lib.hid (Names_f h.dk)
  have H := Lib.hid h
  have HM := Lib.hid hM
  have hfine := h.fine
  have hnl2 : (namesD D).length ≤ 16 := by rw [names_len]; exact hfine.few
  have HF := Lib.hid hfine
  have HS := Lib.hid (show cleanS D 0 = ((namesD D).take (namesD D).length).foldl (clean1 0) (D, 0) by rw [List.take_length]; rfl)
  have HO := Lib.hid (show ∀ i, T i → i < w.heap.size from h.old)
  clear h hM hfine
  go_enter Tryz.func29, Tryz.ntmps29
  go_wp2_with fail
  with_reducible refine HNM.out.mono ?_
  rintro e w1 ⟨v, rfl, hrow, hb1⟩
  obtain ⟨q, cq, rfl, hq⟩ := names_form hrow
  have HQ := Lib.hid hq
  have HB1 := Lib.hid hb1
  clear hrow hq hb1 HNM
  obtain ⟨nl, hnl⟩ : ∃ nl, nl = (namesD D).length := ⟨_, rfl⟩
  rw [← hnl] at hnl2 HS ⊢
  have HNL := Lib.hid hnl
  clear hnl
  go_wp2_with fail
  go_loopw [15] (fun u wr => ∃ (i : Nat) (E : DiskD), u = .int .i64 (i : Int) ∧ i ≤ nl ∧ (E, (0 : Int)) = ((namesD D).take i).foldl (clean1 0) (D, 0) ∧ CleanAt w0 w1 wr b T E) (fun u _ => nl - (intOf u).toNat)
  case atStart => exact ⟨0, D, rfl, Nat.zero_le _, rfl, ⟨⟨T, H.out.later HB1.out, fun i hi => .inl hi⟩, Kept.refl _ _⟩⟩
  case round =>
    obtain ⟨i, E, rfl, hi, hst, hca⟩ := hrel
    have hkt := hca.kept
    by_cases hil : i < nl
    · have hil2 : i < (namesD D).length := by rw [← HNL.out]; exact hil
      obtain ⟨gq, rfl, hgq1, hgq2, hcq⟩ := HQ.out i hil2
      have hcw : wr.cell? ⟨gq, i, none⟩ = some (.string (B (namesD D)[i])) := (World.cell?_of_block (a := ⟨gq, i, none⟩) (hkt.block gq hgq2 (fun ht => by have := HO.out gq ht; omega))).trans hcq
      have m0 : 0 ≤ (i : Int) := by omega
      have m1 : (i : Int) < (nl : Int) := by omega
      have HST := Lib.hid (show ((namesD D).take (i + 1)).foldl (clean1 0) (D, 0) = clean1 0 (E, 0) (namesD D)[i] by rw [List.take_succ_eq_append_getElem hil2, List.foldl_append, ← hst]; rfl)
      have hmine := HM.out _ (List.getElem_mem hil2)
      obtain ⟨F, hF, hnl40⟩ := HF.out.has (List.getElem_mem hil2)
      have HSTOP := Lib.hid (show ∀ r : DiskD × Int, r.2 ≠ 0 → clean1 0 (E, 0) (namesD D)[i] = r → cleanS D 0 = r from fun r hr he => by
        have h1 : namesD D = (namesD D).take (i + 1) ++ (namesD D).drop (i + 1) := (List.take_append_drop _ _).symm
        unfold cleanS
        rw [h1, List.foldl_append, HST.out, he, clean_stop 0 _ r hr])
      have HCA := Lib.hid hca
      clear hst hF hcq hgq1 hgq2 hca hkt
      generalize (namesD D)[i] = nm at *
      have C1 := Lib.hid (Number_snap hmine wr)
      have C2 := Lib.hid (Number_log hmine)
      have CR : Hid (∀ W, CleanAt w0 w1 W b T E → Calls Tryz.prog 55 #[.pointer (some ⟨b, 0, none⟩), .string (B nm)] W fun e w' => e = .returned (.int .i64 (removeD E nm).2) ∧ CleanAt w0 w1 w' b T (removeD E nm).1) := Lib.hid fun W hW => Remove_c hW nm (by unfold maxLen; omega)
      clear hnl40
      rcases mine_nums hmine with ⟨m, hm9, hs, hl⟩ | ⟨m, hm9, hs, hl⟩
      · by_cases hmn : m = 0
        · subst hmn
          have HX := Lib.hid (show stays 0 nm = false by unfold stays; rw [hs]; simp only []; simp)
          rw [hs] at C1
          rw [hl] at C2
          skip
          clear hs hl hmine
          have HR := Lib.hid (show clean1 0 (E, 0) nm = removeD E nm by unfold clean1; rw [if_neg (by simp), if_neg (by rw [HX.out]; simp)])
          generalize removeD E nm = r at CR HR
          obtain ⟨E2, c⟩ := r
          by_cases hc : c = 0
          · subst hc
            go_wp2_with fail
            refine C1.out.mono ?_
            rintro e w2 ⟨rfl, hb2⟩
            have HB2 := Lib.hid hb2
            clear hb2 C1
            go_wp2_with fail
            refine (C2.out w2).mono ?_
            rintro e w3 ⟨rfl, hb3⟩
            have HB3 := Lib.hid hb3
            clear hb3 C2
            have HC3 := Lib.hid ((HCA.out.later HB2.out).later HB3.out)
            go_wp2_with fail
            refine (CR.out w3 HC3.out).mono ?_
            rintro e w4 ⟨rfl, hc4⟩
            have HC4 := Lib.hid hc4
            clear hc4
            go_wp2
            go_roundw
            case rel => exact ⟨i + 1, E2, by go_num, by omega, by rw [HST.out, HR.out], HC4.out⟩
            case measure => simp [intOf]; omega
          · have q : (c != 0) = true := by simpa using hc
            have HZ := Lib.hid (HSTOP.out (E2, c) hc HR.out)
            clear hc
            go_wp2_with fail
            refine C1.out.mono ?_
            rintro e w2 ⟨rfl, hb2⟩
            have HB2 := Lib.hid hb2
            clear hb2 C1
            go_wp2_with fail
            refine (C2.out w2).mono ?_
            rintro e w3 ⟨rfl, hb3⟩
            have HB3 := Lib.hid hb3
            clear hb3 C2
            have HC3 := Lib.hid ((HCA.out.later HB2.out).later HB3.out)
            go_wp2_with fail
            refine (CR.out w3 HC3.out).mono ?_
            rintro e w4 ⟨rfl, hc4⟩
            have HC4 := Lib.hid hc4
            clear hc4
            go_wp2
            go_ret
            rw [HZ.out]
            exact ⟨rfl, HC4.out.back HB1.out⟩
        · have hne : ((m : Int) == (0 : Int)) = false := by simpa using (by omega : ¬ (m : Int) = (0 : Int))
          have HX := Lib.hid (show stays 0 nm = false by unfold stays; rw [hs]; simp only []; simp [hmn])
          rw [hs] at C1
          rw [hl] at C2
          clear hmn
          clear hs hl hmine
          have HR := Lib.hid (show clean1 0 (E, 0) nm = removeD E nm by unfold clean1; rw [if_neg (by simp), if_neg (by rw [HX.out]; simp)])
          generalize removeD E nm = r at CR HR
          obtain ⟨E2, c⟩ := r
          by_cases hc : c = 0
          · subst hc
            go_wp2_with fail
            refine C1.out.mono ?_
            rintro e w2 ⟨rfl, hb2⟩
            have HB2 := Lib.hid hb2
            clear hb2 C1
            go_wp2_with fail
            refine (C2.out w2).mono ?_
            rintro e w3 ⟨rfl, hb3⟩
            have HB3 := Lib.hid hb3
            clear hb3 C2
            have HC3 := Lib.hid ((HCA.out.later HB2.out).later HB3.out)
            go_wp2_with fail
            refine (CR.out w3 HC3.out).mono ?_
            rintro e w4 ⟨rfl, hc4⟩
            have HC4 := Lib.hid hc4
            clear hc4
            go_wp2
            go_roundw
            case rel => exact ⟨i + 1, E2, by go_num, by omega, by rw [HST.out, HR.out], HC4.out⟩
            case measure => simp [intOf]; omega
          · have q : (c != 0) = true := by simpa using hc
            have HZ := Lib.hid (HSTOP.out (E2, c) hc HR.out)
            clear hc
            go_wp2_with fail
            refine C1.out.mono ?_
            rintro e w2 ⟨rfl, hb2⟩
            have HB2 := Lib.hid hb2
            clear hb2 C1
            go_wp2_with fail
            refine (C2.out w2).mono ?_
            rintro e w3 ⟨rfl, hb3⟩
            have HB3 := Lib.hid hb3
            clear hb3 C2
            have HC3 := Lib.hid ((HCA.out.later HB2.out).later HB3.out)
            go_wp2_with fail
            refine (CR.out w3 HC3.out).mono ?_
            rintro e w4 ⟨rfl, hc4⟩
            have HC4 := Lib.hid hc4
            clear hc4
            go_wp2
            go_ret
            rw [HZ.out]
            exact ⟨rfl, HC4.out.back HB1.out⟩
      · by_cases hmn : m = 0
        · rw [hmn] at hl
          clear hmn hm9
          have HX := Lib.hid (show stays 0 nm = true by unfold stays; rw [hs]; simp only []; rw [hl]; simp)
          rw [hs] at C1
          rw [hl] at C2
          skip
          clear hs hl hmine
          go_wp2_with fail
          refine C1.out.mono ?_
          rintro e w2 ⟨rfl, hb2⟩
          have HB2 := Lib.hid hb2
          clear hb2 C1
          go_wp2_with fail
          refine (C2.out w2).mono ?_
          rintro e w3 ⟨rfl, hb3⟩
          have HB3 := Lib.hid hb3
          clear hb3 C2
          have HC3 := Lib.hid ((HCA.out.later HB2.out).later HB3.out)
          go_wp2
          go_roundw
          case rel => exact ⟨i + 1, E, by go_num, by omega, by rw [HST.out]; unfold clean1; rw [if_neg (by simp), if_pos HX.out], HC3.out⟩
          case measure => simp [intOf]; omega
        · have hne : ((m : Int) == (0 : Int)) = false := by simpa using (by omega : ¬ (m : Int) = (0 : Int))
          have HX := Lib.hid (show stays 0 nm = false by unfold stays; rw [hs]; simp only []; rw [hl]; simp [hmn])
          rw [hs] at C1
          rw [hl] at C2
          clear hmn
          clear hs hl hmine
          have HR := Lib.hid (show clean1 0 (E, 0) nm = removeD E nm by unfold clean1; rw [if_neg (by simp), if_neg (by rw [HX.out]; simp)])
          generalize removeD E nm = r at CR HR
          obtain ⟨E2, c⟩ := r
          by_cases hc : c = 0
          · subst hc
            go_wp2_with fail
            refine C1.out.mono ?_
            rintro e w2 ⟨rfl, hb2⟩
            have HB2 := Lib.hid hb2
            clear hb2 C1
            go_wp2_with fail
            refine (C2.out w2).mono ?_
            rintro e w3 ⟨rfl, hb3⟩
            have HB3 := Lib.hid hb3
            clear hb3 C2
            have HC3 := Lib.hid ((HCA.out.later HB2.out).later HB3.out)
            go_wp2_with fail
            refine (CR.out w3 HC3.out).mono ?_
            rintro e w4 ⟨rfl, hc4⟩
            have HC4 := Lib.hid hc4
            clear hc4
            go_wp2
            go_roundw
            case rel => exact ⟨i + 1, E2, by go_num, by omega, by rw [HST.out, HR.out], HC4.out⟩
            case measure => simp [intOf]; omega
          · have q : (c != 0) = true := by simpa using hc
            have HZ := Lib.hid (HSTOP.out (E2, c) hc HR.out)
            clear hc
            go_wp2_with fail
            refine C1.out.mono ?_
            rintro e w2 ⟨rfl, hb2⟩
            have HB2 := Lib.hid hb2
            clear hb2 C1
            go_wp2_with fail
            refine (C2.out w2).mono ?_
            rintro e w3 ⟨rfl, hb3⟩
            have HB3 := Lib.hid hb3
            clear hb3 C2
            have HC3 := Lib.hid ((HCA.out.later HB2.out).later HB3.out)
            go_wp2_with fail
            refine (CR.out w3 HC3.out).mono ?_
            rintro e w4 ⟨rfl, hc4⟩
            have HC4 := Lib.hid hc4
            clear hc4
            go_wp2
            go_ret
            rw [HZ.out]
            exact ⟨rfl, HC4.out.back HB1.out⟩
    · have hii : i = nl := by omega
      have HZ := Lib.hid (show cleanS D 0 = (E, 0) by rw [HS.out, hst, hii])
      have HC := Lib.hid hca
      have hge : ¬ (i : Int) < (nl : Int) := by omega
      clear hst hii hca hkt
      go_wp2
      go_ret
      rw [HZ.out]
      exact ⟨rfl, HC.out.back HB1.out⟩
end Go.Proofs.YtmejdcnnpenaaaaGreatDoor.St
end
