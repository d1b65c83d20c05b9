/-
  Disks (layer 7): the walks of may and Create. No condition but that names are no longer than a string may be.
-/
import Derived.Test.YtpiaplgbpjgjiaaDoorDkRead
open Go Go.RowKit
namespace Go.Proofs.YtpiaplgbpjgjiaaDoor.Dk
open Base Mp
attribute [local go_sem ↓] Go.wp_at_zero Go.wp_at_succ

theorem May_f (w : World) (n : List UInt8) (hn : n.length ≤ maxLen) : Calls Tryd.prog 35 #[.string (B n)] w fun e w' => e = .returned (.bool (mayName n)) ∧ w = w' := by
  unfold maxLen at hn
  by_cases h0 : n = []
  · have HE := Lib.hid (show mayName n = false by rw [h0]; rfl)
    have t1 : n.isEmpty = true := by rw [h0]; rfl
    clear h0
    go_enter Tryd.func35, Tryd.ntmps35
    go_wp2
    go_ret
    rw [HE.out]
    exact ⟨rfl, rfl⟩
  · have t1 : n.isEmpty = false := by cases n; exact absurd rfl h0; rfl
    have hp : 1 ≤ n.length := by cases n; exact absurd rfl h0; simp
    clear h0
    by_cases h4 : 40 < n.length
    · have HE := Lib.hid (show mayName n = false by unfold mayName; rw [show decide (n.length ≤ 40) = false from decide_eq_false (by omega)]; simp)
      have t2 : (40 : Int) < (n.length : Int) := by omega
      go_enter Tryd.func35, Tryd.ntmps35
      go_wp2
      go_ret
      rw [HE.out]
      exact ⟨rfl, rfl⟩
    · have t2 : ¬ (40 : Int) < (n.length : Int) := by omega
      have HALL := Lib.hid (show mayName n = n.all okByte by unfold mayName; rw [decide_eq_true hp, decide_eq_true (show n.length ≤ 40 by omega)]; rfl)
      go_enter Tryd.func35, Tryd.ntmps35
      go_wp2_with fail
      go_loopw [14] (fun u wr => ∃ i : Nat, u = .int .i64 (i : Int) ∧ i ≤ n.length ∧ (∀ j (h : j < n.length), j < i → okByte n[j] = true) ∧ wr = w) (fun u _ => n.length - (intOf u).toNat)
      case atStart => exact ⟨0, rfl, Nat.zero_le _, fun j h h2 => absurd h2 (by omega), rfl⟩
      case round =>
        obtain ⟨i, rfl, hi, hall, rfl⟩ := hrel
        have HA := Lib.hid hall
        clear hall
        by_cases hik : i < n.length
        · have m0 : 0 ≤ (i : Int) := by omega
          have m1 : (i : Int) < (n.length : Int) := by omega
          have hok : okByte n[i] = true → ∀ j (h : j < n.length), j < i + 1 → okByte n[j] = true := fun h j hj h2 => by
            rcases Nat.lt_or_ge j i with h3 | h3
            · exact HA.out j hj h3
            · obtain rfl : j = i := by omega
              exact h
          have hno : okByte n[i] = false → mayName n = false := fun h => by
            rw [HALL.out]
            cases hh : n.all okByte with
            | false => rfl
            | true => rw [List.all_eq_true] at hh; rw [hh _ (List.getElem_mem hik)] at h; cases h
          have HOK := Lib.hid hok
          have HNO := Lib.hid hno
          clear hok hno
          obtain ⟨c, hc⟩ : ∃ c, c = n[i].toNat := ⟨_, rfl⟩
          have hg : ((n[i].toNat : Nat) : Int) = (c : Int) := by rw [hc]
          have HB := Lib.hid (show okByte n[i] = (((97 ≤ c && c ≤ 122) || (48 ≤ c && c ≤ 57)) || c == 45) by rw [hc]; rfl)
          clear hc
          have hcl : ((c : Int) < 45) ∨ ((c : Int) = 45) ∨ ((45 : Int) < (c : Int) ∧ (c : Int) < 48) ∨ ((48 : Int) ≤ (c : Int) ∧ (c : Int) ≤ 57) ∨ ((57 : Int) < (c : Int) ∧ (c : Int) < 97) ∨ ((97 : Int) ≤ (c : Int) ∧ (c : Int) ≤ 122) ∨ ((122 : Int) < (c : Int)) := by omega
          rcases hcl with hq | hq | hq | hq | hq | hq | hq
          · have k0 : (c : Int) < 97 := by omega
            have k1 : (c : Int) < 48 := by omega
            have k2 : ((c : Int) == 45) = false := by simp; omega
            have HV := Lib.hid (show okByte n[i] = false by rw [HB.out]; simp; omega)
            clear hq HB
            go_wp2
            go_ret
            rw [HNO.out HV.out]
            exact ⟨rfl, rfl⟩
          · have k0 : (c : Int) < 97 := by omega
            have k1 : (c : Int) < 48 := by omega
            have k2 : ((c : Int) == 45) = true := by simp; omega
            have HV := Lib.hid (show okByte n[i] = true by rw [HB.out]; simp; omega)
            clear hq HB
            go_wp2_with fail
            go_roundw
            case rel => exact ⟨i + 1, by go_num, hik, HOK.out HV.out, trivial⟩
            case measure => simp [intOf]; omega
          · have k0 : (c : Int) < 97 := by omega
            have k1 : (c : Int) < 48 := by omega
            have k2 : ((c : Int) == 45) = false := by simp; omega
            have HV := Lib.hid (show okByte n[i] = false by rw [HB.out]; simp; omega)
            clear hq HB
            go_wp2
            go_ret
            rw [HNO.out HV.out]
            exact ⟨rfl, rfl⟩
          · have k0 : (c : Int) < 97 := by omega
            have k1 : ¬ (c : Int) < 48 := by omega
            have k2 : ¬ (57 : Int) < (c : Int) := by omega
            have HV := Lib.hid (show okByte n[i] = true by rw [HB.out]; simp; omega)
            clear hq HB
            go_wp2_with fail
            go_roundw
            case rel => exact ⟨i + 1, by go_num, hik, HOK.out HV.out, trivial⟩
            case measure => simp [intOf]; omega
          · have k0 : (c : Int) < 97 := by omega
            have k1 : ¬ (c : Int) < 48 := by omega
            have k2 : (57 : Int) < (c : Int) := by omega
            have k3 : ((c : Int) == 45) = false := by simp; omega
            have HV := Lib.hid (show okByte n[i] = false by rw [HB.out]; simp; omega)
            clear hq HB
            go_wp2
            go_ret
            rw [HNO.out HV.out]
            exact ⟨rfl, rfl⟩
          · have k0 : ¬ (c : Int) < 97 := by omega
            have k1 : ¬ (122 : Int) < (c : Int) := by omega
            have HV := Lib.hid (show okByte n[i] = true by rw [HB.out]; simp; omega)
            clear hq HB
            go_wp2_with fail
            go_roundw
            case rel => exact ⟨i + 1, by go_num, hik, HOK.out HV.out, trivial⟩
            case measure => simp [intOf]; omega
          · have k0 : ¬ (c : Int) < 97 := by omega
            have k1 : (122 : Int) < (c : Int) := by omega
            have k2 : ¬ (c : Int) < 48 := by omega
            have k3 : (57 : Int) < (c : Int) := by omega
            have k4 : ((c : Int) == 45) = false := by simp; omega
            have HV := Lib.hid (show okByte n[i] = false by rw [HB.out]; simp; omega)
            clear hq HB
            go_wp2
            go_ret
            rw [HNO.out HV.out]
            exact ⟨rfl, rfl⟩
        · obtain rfl : i = n.length := by omega
          have HE := Lib.hid (show mayName n = true by
            rw [HALL.out, List.all_eq_true]
            intro x hx
            obtain ⟨j, hj, rfl⟩ := List.getElem_of_mem hx
            exact HA.out j hj hj)
          go_wp2
          go_ret
          rw [HE.out]
          exact ⟨rfl, rfl⟩
def createD (D : DiskD) (n : List UInt8) : DiskD × Int :=
  if mayName n = false then (D, 2) else if still D = true then (D, 70) else if (lookL D.files (keyS n)).isSome = true then (D, 7) else if 16 ≤ D.files.length then (D, 6) else (done { D with files := putL D.files (keyS n) ⟨[], 0, true⟩ }, 0)
set_option maxRecDepth 100000 in
set_option maxHeartbeats 2000000 in
theorem Create_f {w : World} {b : Nat} {D : DiskD} {T : Nat → Prop} (h : DiskAt w b D T) (n : List UInt8) (hn : n.length ≤ maxLen) : Calls Tryd.prog 16 #[.pointer (some ⟨b, 0, none⟩), .string (B n)] w (OpPost w b T (createD D n)) := by
  obtain ⟨tag, blk, bm, h⟩ := h
  have H := Lib.hid h
  have HT := Lib.hid (There_yes w b bm D h.is)
  have HS := Lib.hid (Still_f w b bm D h.is)
  have HM := Lib.hid (May_f w n hn)
  have c2 := h.is.c2
  have hlen := h.map.len Tryd.underlying68 3
  rw [mapE_length] at hlen
  have hlk := h.map.look keyedS Tryd.underlying68 (zP w) (keyB n hn)
  rw [mapE_look] at hlk
  have hfew := h.fine.few
  clear h
  cases hmy : mayName n with
  | false =>
    have HE := Lib.hid (show createD D n = (D, 2) by unfold createD; rw [if_pos hmy])
    rw [hmy] at HM
    go_enter Tryd.func16, Tryd.ntmps16
    go_wp2_with fail
    with_reducible refine HT.out.mono ?_
    rintro e w1 ⟨rfl, rfl⟩
    go_wp2_with fail
    with_reducible refine HM.out.mono ?_
    rintro e w1 ⟨rfl, rfl⟩
    go_wp2
    go_ret
    rw [HE.out]
    exact ⟨rfl, H.out.out, Kept.refl _ _⟩
  | true =>
    have hmy' : ¬ mayName n = false := by rw [hmy]; decide
    rw [hmy] at HM
    cases hst : still D with
    | true =>
      have HE := Lib.hid (show createD D n = (D, 70) by unfold createD; rw [if_neg hmy', if_pos hst])
      rw [hst] at HS
      go_enter Tryd.func16, Tryd.ntmps16
      go_wp2_with fail
      with_reducible refine HT.out.mono ?_
      rintro e w1 ⟨rfl, rfl⟩
      go_wp2_with fail
      with_reducible refine HM.out.mono ?_
      rintro e w1 ⟨rfl, rfl⟩
      go_wp2_with fail
      with_reducible refine HS.out.mono ?_
      rintro e w1 ⟨rfl, rfl⟩
      go_wp2
      go_ret
      rw [HE.out]
      exact ⟨rfl, H.out.out, Kept.refl _ _⟩
    | false =>
      have hst' : ¬ still D = true := by rw [hst]; decide
      have HST := Lib.hid hst
      rw [hst] at HS
      cases hl : lookL D.files (keyS n) with
      | some F =>
        have HE := Lib.hid (show createD D n = (D, 7) by unfold createD; rw [if_neg hmy', if_neg hst', hl]; rfl)
        rw [hl] at hlk
        simp only [Option.map_some, Option.getD_some, ptr] at hlk
        clear hmy hmy' hst hst' hl
        go_enter Tryd.func16, Tryd.ntmps16
        go_wp2_with fail
        with_reducible refine HT.out.mono ?_
        rintro e w1 ⟨rfl, rfl⟩
        go_wp2_with fail
        with_reducible refine HM.out.mono ?_
        rintro e w1 ⟨rfl, rfl⟩
        go_wp2_with fail
        with_reducible refine HS.out.mono ?_
        rintro e w1 ⟨rfl, rfl⟩
        go_wp2
        go_ret
        rw [HE.out]
        exact ⟨rfl, H.out.out, Kept.refl _ _⟩
      | none =>
        have hl' : ¬ (lookL D.files (keyS n)).isSome = true := by rw [hl]; decide
        rw [hl] at hlk
        simp only [Option.map_none, Option.getD_none] at hlk
        by_cases hfu : 16 ≤ D.files.length
        · have HE := Lib.hid (show createD D n = (D, 6) by unfold createD; rw [if_neg hmy', if_neg hst', if_neg hl', if_pos hfu])
          have hfi : (16 : Int) ≤ (D.files.length : Int) := by omega
          clear hmy hmy' hst hst' hl hl'
          go_enter Tryd.func16, Tryd.ntmps16
          go_wp2_with fail
          with_reducible refine HT.out.mono ?_
          rintro e w1 ⟨rfl, rfl⟩
          go_wp2_with fail
          with_reducible refine HM.out.mono ?_
          rintro e w1 ⟨rfl, rfl⟩
          go_wp2_with fail
          with_reducible refine HS.out.mono ?_
          rintro e w1 ⟨rfl, rfl⟩
          go_wp2
          go_ret
          rw [HE.out]
          exact ⟨rfl, H.out.out, Kept.refl _ _⟩
        · have HE := Lib.hid (show createD D n = (done { D with files := putL D.files (keyS n) ⟨[], 0, true⟩ }, 0) by unfold createD; rw [if_neg hmy', if_neg hst', if_neg hl', if_neg hfu])
          have hfi : ¬ (16 : Int) ≤ (D.files.length : Int) := by omega
          have hb1 : Below w.heap.size w (w.alloc (.cells #[.slice none 0 0, .int .i64 0, .bool true] 73)) := (Below.refl _ _).alloc (Nat.le_refl _) _
          have hcm := cells_made w #[.slice none 0 0, .int .i64 0, .bool true] 73
          have hz1 := alloc_more w (.cells #[.slice none 0 0, .int .i64 0, .bool true] 73)
          obtain ⟨w5, hrun5, hm5, ht5⟩ := (H.out.map.next hb1).store keyedS Tryd.underlying68 (by rw [mapE_length]; unfold maxLen; omega) (keyB n hn) (val := .pointer (some ⟨w.heap.size, 0, none⟩))
          have h5 := H.out.put hb1 (Nat.le_refl _) (by omega) (hcm.congr fun j hj => by
            have : j = 0 ∨ j = 1 ∨ j = 2 := by have : j < 3 := hj; omega
            rcases this with rfl | rfl | rfl <;> rfl) hm5 ht5 hmy hl (by omega)
          have k5 : Kept T w w5 := Kept.turned (T := T) (Kept.of_below hb1) ht5 (.inl H.out.minem)
          have H5 := Lib.hid h5
          have K5 := Lib.hid k5
          have HS5 := Lib.hid (show still { D with files := putL D.files (keyS n) ⟨[], 0, true⟩ } = false from hst)
          clear hmy hmy' hst hst' hl hl' hb1 hcm hz1 hm5 ht5 h5 k5
          go_enter Tryd.func16, Tryd.ntmps16
          go_wp2_with fail
          with_reducible refine HT.out.mono ?_
          rintro e w1 ⟨rfl, rfl⟩
          go_wp2_with fail
          with_reducible refine HM.out.mono ?_
          rintro e w1 ⟨rfl, rfl⟩
          go_wp2_with fail
          with_reducible refine HS.out.mono ?_
          rintro e w1 ⟨rfl, rfl⟩
          go_wp2_with fail
          clear hrun5 hlk hlen c2
          with_reducible refine (Done_f H5.out HS5.out).mono ?_
          rintro e w2 ⟨rfl, h2, k2⟩
          have H2 := Lib.hid h2
          have K2 := Lib.hid (K5.out.trans (k2.mono (T' := T) (fun i hi => by rw [hi]; exact H.out.mineb)) (fun _ h => .inl h))
          have Z2 := Lib.hid (show w5.heap.size ≤ w2.heap.size from k2.size)
          clear h2 k2
          go_wp2
          go_ret
          rw [HE.out]
          refine ⟨rfl, ?_, K2.out⟩
          refine ⟨_, _, _, H2.out.wide (fun i hi => ?_) (fun i hi => ?_)⟩
          · rcases hi with hi | hi
            · exact .inl hi
            · exact .inr ⟨hi.1, Nat.lt_of_lt_of_le hi.2 Z2.out⟩
          · rcases hi with hi | hi
            · exact Nat.lt_of_lt_of_le (H.out.old i hi) K2.out.size
            · exact hi.2
end Go.Proofs.YtpiaplgbpjgjiaaDoor.Dk
