/-
  Disks (layer 7): the walk of Crash. Conditions: what is to be kept lies in blocks that are no disk's; numbers are of their kind.
-/
import Derived.BigRegion
import Derived.Test.YtpiaplgbpjgjiaaGreatDoorZDkNames
open Go Go.RowKit
namespace Go.Proofs.YtpiaplgbpjgjiaaGreatDoor.Dk
open Base Mp
attribute [local go_sem ↓] Go.wp_at_zero Go.wp_at_succ

def IntsAt (w : World) (p : Option Addr) (l : List Int) : Prop := ∀ j (h : j < l.length), ∃ g o, p = some ⟨g, o, none⟩ ∧ w.cell? ⟨g, o + j, none⟩ = some (.int .i64 l[j])
def IntsIn (l : List Int) : Prop := ∀ x ∈ l, -9223372036854775808 ≤ x ∧ x ≤ 9223372036854775807
theorem ints_kept {T : Nat → Prop} {w w' : World} {p : Option Addr} {l : List Int} (h : IntsAt w p l) (hk : Kept T w w') (hT : ∀ a, p = some a → ¬ T a.block) : IntsAt w' p l := fun j hj => by
  obtain ⟨g, o, he, hc⟩ := h j hj
  exact ⟨g, o, he, (World.cell?_of_block (a := ⟨g, o + j, none⟩) (hk.block g (lt_of_cell hc) (hT _ he))).trans hc⟩
theorem ints_tail {w : World} {g o : Nat} {x : Int} {r : List Int} (h : IntsAt w (some ⟨g, o, none⟩) (x :: r)) : IntsAt w (some ⟨g, o + 1, none⟩) r := fun j hj => by
  obtain ⟨g', o', he, hc⟩ := h (j + 1) (by simpa using hj)
  injection he with he
  injection he with h1 h2
  subst h1 h2
  exact ⟨g, o + 1, rfl, by rw [show o + 1 + j = o + (j + 1) by omega]; exact hc⟩
set_option maxRecDepth 100000 in
set_option maxHeartbeats 4000000 in
theorem Crash_f {w : World} {b : Nat} {D : DiskD} {T : Nat → Prop} (h : DiskAt w b D T) (p : Option Addr) (keep : List Int) (cap : Nat) (hka : IntsAt w p keep) (hki : IntsIn keep) (hkc : keep.length ≤ cap) (hkm : cap ≤ 9223372036854775807) (hkT : ∀ a, p = some a → ¬ T a.block) : Calls Tryz.prog 22 #[.pointer (some ⟨b, 0, none⟩), .slice p keep.length cap] w (OpPost w b T (crashD D keep, 0)) := by
  have HNM := Lib.hid (Names_f h)
  obtain ⟨tag, blk, bm, h⟩ := h
  have H := Lib.hid h
  have HT := Lib.hid (There_yes w b bm D h.is)
  have HKA := Lib.hid hka
  have HKI := Lib.hid hki
  have HKT := Lib.hid hkT
  clear h hka hki hkT
  go_enter Tryz.func22, Tryz.ntmps22
  go_wp2_with fail
  with_reducible refine HT.out.mono ?_
  rintro e w1 ⟨rfl, rfl⟩
  go_wp2_with fail
  with_reducible refine HNM.out.mono ?_
  rintro e w1 ⟨v, rfl, hrow, hb1⟩
  obtain ⟨q, cq, rfl, hq⟩ := names_form hrow
  have HQ := Lib.hid hq
  have HD1 := Lib.hid (H.out.later hb1)
  have HB1 := Lib.hid hb1
  have HQT := Lib.hid (show ∀ j (hj : j < (namesD D).length) i, T i → i < w.heap.size from fun _ _ i hi => H.out.old i hi)
  clear hrow hq hb1 HNM HT
  obtain ⟨nl, hnl⟩ : ∃ nl, nl = (namesD D).length := ⟨_, rfl⟩
  have hnl2 : nl ≤ 16 := by rw [hnl, names_len]; exact H.out.fine.few
  rw [← hnl]
  have HNL := Lib.hid hnl
  clear hnl
  go_wp2_with fail
  go_loopw [1, 15] (fun k u wr => ∃ (i : Nat) (st : FS × List Int) (p' : Option Addr) (c' : Nat), u = .int .i64 (i : Int) ∧ i ≤ nl ∧ st = ((namesD D).take i).foldl crash1 (D.files, keep) ∧ k = .slice p' st.2.length c' ∧ IntsAt wr p' st.2 ∧ IntsIn st.2 ∧ st.2.length ≤ c' ∧ c' ≤ 9223372036854775807 ∧ (∀ a, p' = some a → ¬ T a.block) ∧ DiskBy tag blk bm wr b { D with files := st.1 } T ∧ Kept T w1 wr) (fun _ u _ => nl - (intOf u).toNat)
  case atStart => exact ⟨0, _, p, cap, rfl, Nat.zero_le _, rfl, rfl, ints_kept (T := T) HKA.out (Kept.of_below HB1.out) HKT.out, HKI.out, hkc, hkm, HKT.out, HD1.out, Kept.refl _ _⟩
  case round =>
    obtain ⟨i, st, p', c', rfl, hi, hst, rfl, hia, hii, hic, hcm, hpT, hdk, hkt⟩ := hrel
    by_cases hil : i < nl
    · have hil2 : i < (namesD D).length := by rw [← HNL.out]; exact hil
      obtain ⟨gq, rfl, hgq1, hgq2, hcq⟩ := HQ.out i hil2
      have hcw : wr.cell? ⟨gq, i, none⟩ = some (.string (B (namesD D)[i])) := (World.cell?_of_block (a := ⟨gq, i, none⟩) (hkt.block gq hgq2 (fun ht => by have := H.out.old gq ht; omega))).trans hcq
      have m0 : 0 ≤ (i : Int) := by omega
      have m1 : (i : Int) < (nl : Int) := by omega
      have HTK := Lib.hid (show ((namesD D).take (i + 1)).foldl crash1 (D.files, keep) = crash1 st (namesD D)[i] by rw [List.take_succ_eq_append_getElem hil2, List.foldl_append, ← hst]; rfl)
      obtain ⟨F, hF, hnl40⟩ := H.out.fine.has (List.getElem_mem hil2)
      have hFs : lookL st.1 (keyS (namesD D)[i]) = some F := by
        rw [hst, crash_still _ _ _ (fun n hn e => ?_)]
        · exact hF
        · obtain ⟨j, hj, rfl⟩ := List.getElem_of_mem hn
          rw [List.length_take] at hj
          rw [List.getElem_take] at e
          exact List.pairwise_iff_getElem.1 H.out.fine.nodup j i (by omega) hil2 (by omega) e.symm
      clear hst hF hcq hgq1 hgq2
      generalize (namesD D)[i] = nm at *
      have hlk := hdk.map.look keyedS Tryz.underlying56 (zP wr) (keyB nm (by unfold maxLen; omega))
      rw [mapE_look, hFs] at hlk
      simp only [Option.map_some, Option.getD_some, ptr] at hlk
      have HLO := Lib.hid (FLoose_f hdk hFs)
      have c2 := hdk.is.c2
      have HX := Lib.hid (And.intro hdk (And.intro hkt (And.intro hia (And.intro hii hpT))))
      have HFS := Lib.hid hFs
      clear hdk hkt hia hii hpT hFs
      go_wp2_with fail
      with_reducible refine HLO.out.mono ?_
      rintro e w2 ⟨rfl, m, rfl⟩
      have hdw := HX.out.1.drewN m
      have hkw : Kept T w1 (wr.drewN m) := ⟨HX.out.2.1.os, HX.out.2.1.tape, HX.out.2.1.output, HX.out.2.1.size, HX.out.2.1.block⟩
      have hiw : IntsAt (wr.drewN m) p' st.2 := fun j hj => HX.out.2.2.1 j hj
      have HY := Lib.hid (And.intro hdw (And.intro hkw (And.intro hiw (And.intro HX.out.2.2.2.1 HX.out.2.2.2.2))))
      clear hdw hkw hiw HX hlk hcw c2 HLO
      generalize wr.drewN m = w2 at *
      -- BODYDONE
      obtain ⟨L, hL⟩ : ∃ L, F.bytes.length - F.sure = L := ⟨_, rfl⟩
      have hsu := HY.out.1.fine.sure _ (mem_of_look HFS.out)
      have hsh := HY.out.1.fine.short (mem_of_look HFS.out)
      simp only at hsu hsh
      obtain ⟨⟨v, hcs, hr, hv⟩, hm⟩ := HY.out.1.at HFS.out
      have c1f := (hcs 1 (by omega)).1
      have c2f := (hcs 2 (by omega)).1
      simp only [fileCell] at c1f c2f
      clear hcs hr hv hm
      rw [hL]
      by_cases hsk : L = 0 ∧ F.fresh = false
      · have HC := Lib.hid (show crash1 st nm = st by unfold crash1; rw [HFS.out]; simp only; rw [hL, if_pos hsk])
        obtain ⟨rfl, hfr⟩ := hsk
        rw [hfr] at c2f
        clear hfr
        go_wp2_with fail
        go_roundw
        case rel => exact ⟨i + 1, crash1 st nm, p', c', by go_num, hil, HTK.out.symm, by rw [HC.out], by rw [HC.out]; exact HY.out.2.2.1, by rw [HC.out]; exact HY.out.2.2.2.1, by rw [HC.out]; exact hic, hcm, HY.out.2.2.2.2, by rw [HC.out]; exact HY.out.1, HY.out.2.1⟩
        case measure => simp [intOf]; omega
      · have HSK := Lib.hid (show ¬ (L = 0 ∧ F.fresh = false) from hsk)
        have hLf : L ≠ 0 ∨ F.fresh = true := by
          by_cases h : L = 0
          · exact .inr (by cases hf : F.fresh; exact absurd ⟨h, hf⟩ hsk; rfl)
          · exact .inl h
        clear hsk
        have hx1 : crash1 st nm = (if F.fresh = true ∧ st.2.headD (-1) < 0 then (delL st.1 (keyS nm), st.2.tail) else (setL st.1 (keyS nm) ⟨F.bytes.take (keptOf F (st.2.headD (-1))), keptOf F (st.2.headD (-1)), false⟩, st.2.tail)) := by
          unfold crash1; rw [HFS.out]; simp only; rw [hL, if_neg HSK.out]
        have HX1 := Lib.hid hx1
        clear hx1
        obtain ⟨kl, hkl⟩ : ∃ kl, kl = st.2 := ⟨_, rfl⟩
        have HKL := Lib.hid hkl
        rw [← hkl] at HY HX1 hic ⊢
        clear hkl
        cases kl with
        | nil =>
          cases hfr : F.fresh with
          | true =>
            have HC := Lib.hid (show crash1 st nm = (delL st.1 (keyS nm), []) by rw [HX1.out, if_pos ⟨hfr, by decide⟩]; rfl)
            have HC1 := Lib.hid (congrArg Prod.fst HC.out)
            have HC2 := Lib.hid (congrArg Prod.snd HC.out)
            rw [hfr] at c2f
            have hlo0 : L = 0 ∨ L ≠ 0 := by omega
            clear hLf
            rcases hlo0 with rfl | hL0
            · simp only [List.length_nil]
              obtain ⟨w5, hrun5, hm5, ht5⟩ := HY.out.1.map.drop keyedS Tryz.underlying56 (keyB nm (by unfold maxLen; omega)) 0
              have h5 := HY.out.1.dropped hm5 ht5
              have k5 : Kept T w2 w5 := Kept.turned (T := T) (Kept.refl _ w2) ht5 (.inl H.out.minem)
              have H5 := Lib.hid (show DiskBy tag blk bm w5 b { D with files := (crash1 st nm).1 } T by rw [HC1.out]; exact h5)
              have K5 := Lib.hid k5
              have c2h := HY.out.1.is.c2
              clear hm5 ht5 h5 k5
              go_wp2_with fail
              go_roundw
              case rel =>
                refine ⟨i + 1, crash1 st nm, p', c', by go_num, hil, HTK.out.symm, by (rw [HC2.out]) <;> rfl, by rw [HC2.out]; exact ints_kept (T := T) HY.out.2.2.1 K5.out HY.out.2.2.2.2, by rw [HC2.out]; exact HY.out.2.2.2.1, by rw [HC2.out]; omega, by omega, HY.out.2.2.2.2, H5.out, HY.out.2.1.trans K5.out (fun _ h => .inl h)⟩
              case measure => simp [intOf]; omega
            · have hL1 : ((L : Int) == 0) = false := by simp; omega
              simp only [List.length_nil]
              obtain ⟨w5, hrun5, hm5, ht5⟩ := HY.out.1.map.drop keyedS Tryz.underlying56 (keyB nm (by unfold maxLen; omega)) 0
              have h5 := HY.out.1.dropped hm5 ht5
              have k5 : Kept T w2 w5 := Kept.turned (T := T) (Kept.refl _ w2) ht5 (.inl H.out.minem)
              have H5 := Lib.hid (show DiskBy tag blk bm w5 b { D with files := (crash1 st nm).1 } T by rw [HC1.out]; exact h5)
              have K5 := Lib.hid k5
              have c2h := HY.out.1.is.c2
              clear hm5 ht5 h5 k5
              go_wp2_with fail
              go_roundw
              case rel =>
                refine ⟨i + 1, crash1 st nm, p', c', by go_num, hil, HTK.out.symm, by (rw [HC2.out]) <;> rfl, by rw [HC2.out]; exact ints_kept (T := T) HY.out.2.2.1 K5.out HY.out.2.2.2.2, by rw [HC2.out]; exact HY.out.2.2.2.1, by rw [HC2.out]; omega, by omega, HY.out.2.2.2.2, H5.out, HY.out.2.1.trans K5.out (fun _ h => .inl h)⟩
              case measure => simp [intOf]; omega
          | false =>
            have HC := Lib.hid (show crash1 st nm = (setL st.1 (keyS nm) ⟨F.bytes.take (keptOf F (-1)), keptOf F (-1), false⟩, []) by rw [HX1.out, if_neg (by rw [hfr]; simp)]; rfl)
            have HC1 := Lib.hid (congrArg Prod.fst HC.out)
            have HC2 := Lib.hid (congrArg Prod.snd HC.out)
            rw [hfr] at c2f
            have hL0 : L ≠ 0 := hLf.resolve_right (by rw [hfr]; decide)
            have hL1 : ((L : Int) == 0) = false := by simp; omega
            clear hLf
            simp only [List.length_nil]
            obtain ⟨q, hq⟩ : ∃ q : Nat, q = min (max (-1 : Int) 0).toNat L := ⟨_, rfl⟩
            have hqL : q ≤ L := by rw [hq]; exact Nat.min_le_right _ _
            have e1 : min (max (-1 : Int) 0) (L : Int) = (q : Int) := by omega
            have e3 : IntKind.i64.wrap ((F.sure : Int) + (q : Int)) = (F.sure : Int) + (q : Int) := by rw [IntKind.wrap_i64]; omega
            have hkq : keptOf F (-1) = F.sure + q := by unfold keptOf; rw [hL, ← hq]
            have HLO3 := Lib.hid (FLoose_f HY.out.1.drew HFS.out)
            rw [hL] at HLO3
            have HSY := Lib.hid (fun m => FSync_f (HY.out.1.drewN m) HFS.out (F.sure + q) (by omega))
            have hc5 : ((F.sure + q : Nat) : Int) = (F.sure : Int) + (q : Int) := by omega
            rw [hc5] at HSY
            have HMT := Lib.hid (show ∀ i, tag i = some (keyS nm) → T i from fun i hi => H.out.minet i _ hi)
            have cd : w2.drew.cell? ⟨blk (keyS nm), 1, none⟩ = some (.int .i64 (F.sure : Int)) := c1f
            have cn : ∀ m, (w2.drewN m).cell? ⟨blk (keyS nm), 1, none⟩ = some (.int .i64 (F.sure : Int)) := fun m => c1f
            have hfb0 : blk (keyS nm) < w2.heap.size := lt_of_cell c1f
            have HKQ := Lib.hid hkq
            clear hq hkq hc5
            go_wp2_with fail
            go_region_with (first | (go_at_call 50; with_reducible refine HLO3.out.mono ?_; rintro e w7 ⟨rfl, m7, rfl⟩) | (go_at_call 51; with_reducible refine (HSY.out _).mono ?_; rintro e w8 ⟨rfl, h8, k8⟩))
            all_goals
              have h8' : DiskBy tag blk bm w8 b { D with files := (crash1 st nm).1 } T := by rw [HC1.out, HKQ.out]; exact h8
              have k8' : Kept T w2 w8 := ⟨k8.os, k8.tape, k8.output, k8.size, fun i hi hn => k8.block i hi (fun e => hn (HMT.out i e))⟩
              have H8 := Lib.hid h8'
              have K8 := Lib.hid k8'
              clear h8 k8 h8' k8' cd cn HSY HLO3
              go_wp2_with fail
              go_roundw
              case rel =>
                refine ⟨i + 1, crash1 st nm, p', c', by go_num, hil, HTK.out.symm, by (rw [HC2.out]) <;> rfl, by rw [HC2.out]; exact ints_kept (T := T) HY.out.2.2.1 K8.out HY.out.2.2.2.2, by rw [HC2.out]; exact HY.out.2.2.2.1, by rw [HC2.out]; omega, by omega, HY.out.2.2.2.2, H8.out, HY.out.2.1.trans K8.out (fun _ h => .inl h)⟩
              case measure => simp [intOf]; omega
        | cons x r =>
          obtain ⟨gk, ok, rfl, hck⟩ := HY.out.2.2.1 0 (by simp)
          simp only [Nat.add_zero, List.getElem_cons_zero] at hck
          have hxr := HY.out.2.2.2.1 x (by simp)
          have hic2 : r.length + 1 ≤ c' := by simpa using hic
          have HRI := Lib.hid (show IntsIn r from fun y hy => HY.out.2.2.2.1 y (by simp [hy]))
          have HNT := Lib.hid (show ¬ T gk from HY.out.2.2.2.2 _ rfl)
          have n1 : (0 : Int) < (r.length : Int) + 1 := by omega
          have n2 : (1 : Int) ≤ (r.length : Int) + 1 := by omega
          have n3 : ((r.length + 1 : Nat) : Int) ≤ (c' : Int) := by omega
          simp only [List.length_cons]
          by_cases hc1 : c' = 1
          · subst hc1
            obtain rfl : r = [] := List.length_eq_zero_iff.1 (by omega)
            simp only [List.length_nil]
            cases hfr : F.fresh with
            | true =>
              by_cases hx0 : x < 0
              · have HC := Lib.hid (show crash1 st nm = (delL st.1 (keyS nm), []) by rw [HX1.out, if_pos ⟨hfr, hx0⟩]; rfl)
                have HC1 := Lib.hid (congrArg Prod.fst HC.out)
                have HC2 := Lib.hid (congrArg Prod.snd HC.out)
                rw [hfr] at c2f
                have hlo0 : L = 0 ∨ L ≠ 0 := by omega
                clear hLf
                rcases hlo0 with hL0 | hL0
                · have hL1 : ((L : Int) == 0) = true := by rw [hL0]; rfl
                  clear hL0
                  go_wp2_with fail
                  go_quiet (fail)
                  have HW := Lib.hid (And.intro (HY.out.1.drewN nq) (And.intro (show Kept T w1 (w2.drewN nq) from ⟨HY.out.2.1.os, HY.out.2.1.tape, HY.out.2.1.output, HY.out.2.1.size, HY.out.2.1.block⟩) (And.intro (show IntsAt (w2.drewN nq) (some ⟨gk, ok, none⟩) [] from fun j hj => absurd hj (by simp)) (And.intro (show IntsIn [] from fun y hy => absurd hy (by simp)) (show ∀ a : Addr, ((some ⟨gk, ok, none⟩) : Option Addr) = some a → ¬ T a.block from fun a h => by injection h with h; rw [← h]; exact HNT.out)))))
                  have c1f : (w2.drewN nq).cell? ⟨blk (keyS nm), 1, none⟩ = some (.int .i64 (F.sure : Int)) := c1f
                  have c2f : (w2.drewN nq).cell? ⟨blk (keyS nm), 2, none⟩ = some (.bool true) := c2f
                  clear HY hck
                  generalize w2.drewN nq = w3 at *
                  obtain ⟨w5, hrun5, hm5, ht5⟩ := HW.out.1.map.drop keyedS Tryz.underlying56 (keyB nm (by unfold maxLen; omega)) 0
                  have h5 := HW.out.1.dropped hm5 ht5
                  have k5 : Kept T w3 w5 := Kept.turned (T := T) (Kept.refl _ w3) ht5 (.inl H.out.minem)
                  have H5 := Lib.hid (show DiskBy tag blk bm w5 b { D with files := (crash1 st nm).1 } T by rw [HC1.out]; exact h5)
                  have K5 := Lib.hid k5
                  have c2h := HW.out.1.is.c2
                  clear hm5 ht5 h5 k5
                  go_wp2_with fail
                  go_roundw
                  case rel =>
                    refine ⟨i + 1, crash1 st nm, (some ⟨gk, ok, none⟩), 0, by go_num, hil, HTK.out.symm, by (rw [HC2.out]) <;> rfl, by rw [HC2.out]; exact ints_kept (T := T) HW.out.2.2.1 K5.out HW.out.2.2.2.2, by rw [HC2.out]; exact HW.out.2.2.2.1, by rw [HC2.out]; omega, by omega, HW.out.2.2.2.2, H5.out, HW.out.2.1.trans K5.out (fun _ h => .inl h)⟩
                  case measure => simp [intOf]; omega
                · have hL1 : ((L : Int) == 0) = false := by simp; omega
                  go_wp2_with fail
                  go_quiet (fail)
                  have HW := Lib.hid (And.intro (HY.out.1.drewN nq) (And.intro (show Kept T w1 (w2.drewN nq) from ⟨HY.out.2.1.os, HY.out.2.1.tape, HY.out.2.1.output, HY.out.2.1.size, HY.out.2.1.block⟩) (And.intro (show IntsAt (w2.drewN nq) (some ⟨gk, ok, none⟩) [] from fun j hj => absurd hj (by simp)) (And.intro (show IntsIn [] from fun y hy => absurd hy (by simp)) (show ∀ a : Addr, ((some ⟨gk, ok, none⟩) : Option Addr) = some a → ¬ T a.block from fun a h => by injection h with h; rw [← h]; exact HNT.out)))))
                  have c1f : (w2.drewN nq).cell? ⟨blk (keyS nm), 1, none⟩ = some (.int .i64 (F.sure : Int)) := c1f
                  have c2f : (w2.drewN nq).cell? ⟨blk (keyS nm), 2, none⟩ = some (.bool true) := c2f
                  clear HY hck
                  generalize w2.drewN nq = w3 at *
                  obtain ⟨w5, hrun5, hm5, ht5⟩ := HW.out.1.map.drop keyedS Tryz.underlying56 (keyB nm (by unfold maxLen; omega)) 0
                  have h5 := HW.out.1.dropped hm5 ht5
                  have k5 : Kept T w3 w5 := Kept.turned (T := T) (Kept.refl _ w3) ht5 (.inl H.out.minem)
                  have H5 := Lib.hid (show DiskBy tag blk bm w5 b { D with files := (crash1 st nm).1 } T by rw [HC1.out]; exact h5)
                  have K5 := Lib.hid k5
                  have c2h := HW.out.1.is.c2
                  clear hm5 ht5 h5 k5
                  go_wp2_with fail
                  go_roundw
                  case rel =>
                    refine ⟨i + 1, crash1 st nm, (some ⟨gk, ok, none⟩), 0, by go_num, hil, HTK.out.symm, by (rw [HC2.out]) <;> rfl, by rw [HC2.out]; exact ints_kept (T := T) HW.out.2.2.1 K5.out HW.out.2.2.2.2, by rw [HC2.out]; exact HW.out.2.2.2.1, by rw [HC2.out]; omega, by omega, HW.out.2.2.2.2, H5.out, HW.out.2.1.trans K5.out (fun _ h => .inl h)⟩
                  case measure => simp [intOf]; omega
              · have HC := Lib.hid (show crash1 st nm = (setL st.1 (keyS nm) ⟨F.bytes.take (keptOf F x), keptOf F x, false⟩, []) by rw [HX1.out, if_neg (fun h => hx0 h.2)]; rfl)
                have HC1 := Lib.hid (congrArg Prod.fst HC.out)
                have HC2 := Lib.hid (congrArg Prod.snd HC.out)
                rw [hfr] at c2f
                have hlo0 : L = 0 ∨ L ≠ 0 := by omega
                clear hLf
                rcases hlo0 with hL0 | hL0
                · have hL1 : ((L : Int) == 0) = true := by rw [hL0]; rfl
                  clear hL0
                  go_wp2_with fail
                  go_quiet (fail)
                  have HW := Lib.hid (And.intro (HY.out.1.drewN nq) (And.intro (show Kept T w1 (w2.drewN nq) from ⟨HY.out.2.1.os, HY.out.2.1.tape, HY.out.2.1.output, HY.out.2.1.size, HY.out.2.1.block⟩) (And.intro (show IntsAt (w2.drewN nq) (some ⟨gk, ok, none⟩) [] from fun j hj => absurd hj (by simp)) (And.intro (show IntsIn [] from fun y hy => absurd hy (by simp)) (show ∀ a : Addr, ((some ⟨gk, ok, none⟩) : Option Addr) = some a → ¬ T a.block from fun a h => by injection h with h; rw [← h]; exact HNT.out)))))
                  have c1f : (w2.drewN nq).cell? ⟨blk (keyS nm), 1, none⟩ = some (.int .i64 (F.sure : Int)) := c1f
                  have c2f : (w2.drewN nq).cell? ⟨blk (keyS nm), 2, none⟩ = some (.bool true) := c2f
                  clear HY hck
                  generalize w2.drewN nq = w3 at *
                  obtain ⟨q, hq⟩ : ∃ q : Nat, q = min (max (x : Int) 0).toNat L := ⟨_, rfl⟩
                  have hqL : q ≤ L := by rw [hq]; exact Nat.min_le_right _ _
                  have e1 : min (max (x : Int) 0) (L : Int) = (q : Int) := by omega
                  have e3 : IntKind.i64.wrap ((F.sure : Int) + (q : Int)) = (F.sure : Int) + (q : Int) := by rw [IntKind.wrap_i64]; omega
                  have hkq : keptOf F (x) = F.sure + q := by unfold keptOf; rw [hL, ← hq]
                  have HLO3 := Lib.hid (FLoose_f HW.out.1.drew HFS.out)
                  rw [hL] at HLO3
                  have HSY := Lib.hid (fun m => FSync_f (HW.out.1.drewN m) HFS.out (F.sure + q) (by omega))
                  have hc5 : ((F.sure + q : Nat) : Int) = (F.sure : Int) + (q : Int) := by omega
                  rw [hc5] at HSY
                  have HMT := Lib.hid (show ∀ i, tag i = some (keyS nm) → T i from fun i hi => H.out.minet i _ hi)
                  have cd : w3.drew.cell? ⟨blk (keyS nm), 1, none⟩ = some (.int .i64 (F.sure : Int)) := c1f
                  have cn : ∀ m, (w3.drewN m).cell? ⟨blk (keyS nm), 1, none⟩ = some (.int .i64 (F.sure : Int)) := fun m => c1f
                  have hfb0 : blk (keyS nm) < w3.heap.size := lt_of_cell c1f
                  have HKQ := Lib.hid hkq
                  clear hq hkq hc5
                  go_wp2_with fail
                  go_region_with (first | (go_at_call 50; with_reducible refine HLO3.out.mono ?_; rintro e w7 ⟨rfl, m7, rfl⟩) | (go_at_call 51; with_reducible refine (HSY.out _).mono ?_; rintro e w8 ⟨rfl, h8, k8⟩))
                  all_goals
                    have h8' : DiskBy tag blk bm w8 b { D with files := (crash1 st nm).1 } T := by rw [HC1.out, HKQ.out]; exact h8
                    have k8' : Kept T w3 w8 := ⟨k8.os, k8.tape, k8.output, k8.size, fun i hi hn => k8.block i hi (fun e => hn (HMT.out i e))⟩
                    have H8 := Lib.hid h8'
                    have K8 := Lib.hid k8'
                    clear h8 k8 h8' k8' cd cn HSY HLO3
                    go_wp2_with fail
                    go_roundw
                    case rel =>
                      refine ⟨i + 1, crash1 st nm, (some ⟨gk, ok, none⟩), 0, by go_num, hil, HTK.out.symm, by (rw [HC2.out]) <;> rfl, by rw [HC2.out]; exact ints_kept (T := T) HW.out.2.2.1 K8.out HW.out.2.2.2.2, by rw [HC2.out]; exact HW.out.2.2.2.1, by rw [HC2.out]; omega, by omega, HW.out.2.2.2.2, H8.out, HW.out.2.1.trans K8.out (fun _ h => .inl h)⟩
                    case measure => simp [intOf]; omega
                · have hL1 : ((L : Int) == 0) = false := by simp; omega
                  go_wp2_with fail
                  go_quiet (fail)
                  have HW := Lib.hid (And.intro (HY.out.1.drewN nq) (And.intro (show Kept T w1 (w2.drewN nq) from ⟨HY.out.2.1.os, HY.out.2.1.tape, HY.out.2.1.output, HY.out.2.1.size, HY.out.2.1.block⟩) (And.intro (show IntsAt (w2.drewN nq) (some ⟨gk, ok, none⟩) [] from fun j hj => absurd hj (by simp)) (And.intro (show IntsIn [] from fun y hy => absurd hy (by simp)) (show ∀ a : Addr, ((some ⟨gk, ok, none⟩) : Option Addr) = some a → ¬ T a.block from fun a h => by injection h with h; rw [← h]; exact HNT.out)))))
                  have c1f : (w2.drewN nq).cell? ⟨blk (keyS nm), 1, none⟩ = some (.int .i64 (F.sure : Int)) := c1f
                  have c2f : (w2.drewN nq).cell? ⟨blk (keyS nm), 2, none⟩ = some (.bool true) := c2f
                  clear HY hck
                  generalize w2.drewN nq = w3 at *
                  obtain ⟨q, hq⟩ : ∃ q : Nat, q = min (max (x : Int) 0).toNat L := ⟨_, rfl⟩
                  have hqL : q ≤ L := by rw [hq]; exact Nat.min_le_right _ _
                  have e1 : min (max (x : Int) 0) (L : Int) = (q : Int) := by omega
                  have e3 : IntKind.i64.wrap ((F.sure : Int) + (q : Int)) = (F.sure : Int) + (q : Int) := by rw [IntKind.wrap_i64]; omega
                  have hkq : keptOf F (x) = F.sure + q := by unfold keptOf; rw [hL, ← hq]
                  have HLO3 := Lib.hid (FLoose_f HW.out.1.drew HFS.out)
                  rw [hL] at HLO3
                  have HSY := Lib.hid (fun m => FSync_f (HW.out.1.drewN m) HFS.out (F.sure + q) (by omega))
                  have hc5 : ((F.sure + q : Nat) : Int) = (F.sure : Int) + (q : Int) := by omega
                  rw [hc5] at HSY
                  have HMT := Lib.hid (show ∀ i, tag i = some (keyS nm) → T i from fun i hi => H.out.minet i _ hi)
                  have cd : w3.drew.cell? ⟨blk (keyS nm), 1, none⟩ = some (.int .i64 (F.sure : Int)) := c1f
                  have cn : ∀ m, (w3.drewN m).cell? ⟨blk (keyS nm), 1, none⟩ = some (.int .i64 (F.sure : Int)) := fun m => c1f
                  have hfb0 : blk (keyS nm) < w3.heap.size := lt_of_cell c1f
                  have HKQ := Lib.hid hkq
                  clear hq hkq hc5
                  go_wp2_with fail
                  go_region_with (first | (go_at_call 50; with_reducible refine HLO3.out.mono ?_; rintro e w7 ⟨rfl, m7, rfl⟩) | (go_at_call 51; with_reducible refine (HSY.out _).mono ?_; rintro e w8 ⟨rfl, h8, k8⟩))
                  all_goals
                    have h8' : DiskBy tag blk bm w8 b { D with files := (crash1 st nm).1 } T := by rw [HC1.out, HKQ.out]; exact h8
                    have k8' : Kept T w3 w8 := ⟨k8.os, k8.tape, k8.output, k8.size, fun i hi hn => k8.block i hi (fun e => hn (HMT.out i e))⟩
                    have H8 := Lib.hid h8'
                    have K8 := Lib.hid k8'
                    clear h8 k8 h8' k8' cd cn HSY HLO3
                    go_wp2_with fail
                    go_roundw
                    case rel =>
                      refine ⟨i + 1, crash1 st nm, (some ⟨gk, ok, none⟩), 0, by go_num, hil, HTK.out.symm, by (rw [HC2.out]) <;> rfl, by rw [HC2.out]; exact ints_kept (T := T) HW.out.2.2.1 K8.out HW.out.2.2.2.2, by rw [HC2.out]; exact HW.out.2.2.2.1, by rw [HC2.out]; omega, by omega, HW.out.2.2.2.2, H8.out, HW.out.2.1.trans K8.out (fun _ h => .inl h)⟩
                    case measure => simp [intOf]; omega
            | false =>
              have HC := Lib.hid (show crash1 st nm = (setL st.1 (keyS nm) ⟨F.bytes.take (keptOf F x), keptOf F x, false⟩, []) by rw [HX1.out, if_neg (fun h => by rw [hfr] at h; cases h.1)]; rfl)
              have HC1 := Lib.hid (congrArg Prod.fst HC.out)
              have HC2 := Lib.hid (congrArg Prod.snd HC.out)
              rw [hfr] at c2f
              have hL0 : L ≠ 0 := hLf.resolve_right (by rw [hfr]; decide)
              have hL1 : ((L : Int) == 0) = false := by simp; omega
              clear hLf
              go_wp2_with fail
              go_quiet (fail)
              have HW := Lib.hid (And.intro (HY.out.1.drewN nq) (And.intro (show Kept T w1 (w2.drewN nq) from ⟨HY.out.2.1.os, HY.out.2.1.tape, HY.out.2.1.output, HY.out.2.1.size, HY.out.2.1.block⟩) (And.intro (show IntsAt (w2.drewN nq) (some ⟨gk, ok, none⟩) [] from fun j hj => absurd hj (by simp)) (And.intro (show IntsIn [] from fun y hy => absurd hy (by simp)) (show ∀ a : Addr, ((some ⟨gk, ok, none⟩) : Option Addr) = some a → ¬ T a.block from fun a h => by injection h with h; rw [← h]; exact HNT.out)))))
              have c1f : (w2.drewN nq).cell? ⟨blk (keyS nm), 1, none⟩ = some (.int .i64 (F.sure : Int)) := c1f
              have c2f : (w2.drewN nq).cell? ⟨blk (keyS nm), 2, none⟩ = some (.bool false) := c2f
              clear HY hck
              generalize w2.drewN nq = w3 at *
              obtain ⟨q, hq⟩ : ∃ q : Nat, q = min (max (x : Int) 0).toNat L := ⟨_, rfl⟩
              have hqL : q ≤ L := by rw [hq]; exact Nat.min_le_right _ _
              have e1 : min (max (x : Int) 0) (L : Int) = (q : Int) := by omega
              have e3 : IntKind.i64.wrap ((F.sure : Int) + (q : Int)) = (F.sure : Int) + (q : Int) := by rw [IntKind.wrap_i64]; omega
              have hkq : keptOf F (x) = F.sure + q := by unfold keptOf; rw [hL, ← hq]
              have HLO3 := Lib.hid (FLoose_f HW.out.1.drew HFS.out)
              rw [hL] at HLO3
              have HSY := Lib.hid (fun m => FSync_f (HW.out.1.drewN m) HFS.out (F.sure + q) (by omega))
              have hc5 : ((F.sure + q : Nat) : Int) = (F.sure : Int) + (q : Int) := by omega
              rw [hc5] at HSY
              have HMT := Lib.hid (show ∀ i, tag i = some (keyS nm) → T i from fun i hi => H.out.minet i _ hi)
              have cd : w3.drew.cell? ⟨blk (keyS nm), 1, none⟩ = some (.int .i64 (F.sure : Int)) := c1f
              have cn : ∀ m, (w3.drewN m).cell? ⟨blk (keyS nm), 1, none⟩ = some (.int .i64 (F.sure : Int)) := fun m => c1f
              have hfb0 : blk (keyS nm) < w3.heap.size := lt_of_cell c1f
              have HKQ := Lib.hid hkq
              clear hq hkq hc5
              go_wp2_with fail
              go_region_with (first | (go_at_call 50; with_reducible refine HLO3.out.mono ?_; rintro e w7 ⟨rfl, m7, rfl⟩) | (go_at_call 51; with_reducible refine (HSY.out _).mono ?_; rintro e w8 ⟨rfl, h8, k8⟩))
              all_goals
                have h8' : DiskBy tag blk bm w8 b { D with files := (crash1 st nm).1 } T := by rw [HC1.out, HKQ.out]; exact h8
                have k8' : Kept T w3 w8 := ⟨k8.os, k8.tape, k8.output, k8.size, fun i hi hn => k8.block i hi (fun e => hn (HMT.out i e))⟩
                have H8 := Lib.hid h8'
                have K8 := Lib.hid k8'
                clear h8 k8 h8' k8' cd cn HSY HLO3
                go_wp2_with fail
                go_roundw
                case rel =>
                  refine ⟨i + 1, crash1 st nm, (some ⟨gk, ok, none⟩), 0, by go_num, hil, HTK.out.symm, by (rw [HC2.out]) <;> rfl, by rw [HC2.out]; exact ints_kept (T := T) HW.out.2.2.1 K8.out HW.out.2.2.2.2, by rw [HC2.out]; exact HW.out.2.2.2.1, by rw [HC2.out]; omega, by omega, HW.out.2.2.2.2, H8.out, HW.out.2.1.trans K8.out (fun _ h => .inl h)⟩
                case measure => simp [intOf]; omega
          · have hc2 : 1 < c' := by omega
            have hc3 : ¬ c' - 1 = 0 := by omega
            cases hfr : F.fresh with
            | true =>
              by_cases hx0 : x < 0
              · have HC := Lib.hid (show crash1 st nm = (delL st.1 (keyS nm), r) by rw [HX1.out, if_pos ⟨hfr, hx0⟩]; rfl)
                have HC1 := Lib.hid (congrArg Prod.fst HC.out)
                have HC2 := Lib.hid (congrArg Prod.snd HC.out)
                rw [hfr] at c2f
                have hlo0 : L = 0 ∨ L ≠ 0 := by omega
                clear hLf
                rcases hlo0 with hL0 | hL0
                · have hL1 : ((L : Int) == 0) = true := by rw [hL0]; rfl
                  clear hL0
                  go_wp2_with fail
                  go_quiet (fail)
                  have HW := Lib.hid (And.intro (HY.out.1.drewN nq) (And.intro (show Kept T w1 (w2.drewN nq) from ⟨HY.out.2.1.os, HY.out.2.1.tape, HY.out.2.1.output, HY.out.2.1.size, HY.out.2.1.block⟩) (And.intro (show IntsAt (w2.drewN nq) (some ⟨gk, ok + 1, none⟩) r from ints_tail (fun j hj => HY.out.2.2.1 j hj)) (And.intro (show IntsIn r from HRI.out) (show ∀ a : Addr, ((some ⟨gk, ok + 1, none⟩) : Option Addr) = some a → ¬ T a.block from fun a h => by injection h with h; rw [← h]; exact HNT.out)))))
                  have c1f : (w2.drewN nq).cell? ⟨blk (keyS nm), 1, none⟩ = some (.int .i64 (F.sure : Int)) := c1f
                  have c2f : (w2.drewN nq).cell? ⟨blk (keyS nm), 2, none⟩ = some (.bool true) := c2f
                  clear HY hck
                  generalize w2.drewN nq = w3 at *
                  obtain ⟨w5, hrun5, hm5, ht5⟩ := HW.out.1.map.drop keyedS Tryz.underlying56 (keyB nm (by unfold maxLen; omega)) 0
                  have h5 := HW.out.1.dropped hm5 ht5
                  have k5 : Kept T w3 w5 := Kept.turned (T := T) (Kept.refl _ w3) ht5 (.inl H.out.minem)
                  have H5 := Lib.hid (show DiskBy tag blk bm w5 b { D with files := (crash1 st nm).1 } T by rw [HC1.out]; exact h5)
                  have K5 := Lib.hid k5
                  have c2h := HW.out.1.is.c2
                  clear hm5 ht5 h5 k5
                  go_wp2_with fail
                  go_roundw
                  case rel =>
                    refine ⟨i + 1, crash1 st nm, (some ⟨gk, ok + 1, none⟩), (c' - 1), by go_num, hil, HTK.out.symm, by (rw [HC2.out]) <;> rfl, by rw [HC2.out]; exact ints_kept (T := T) HW.out.2.2.1 K5.out HW.out.2.2.2.2, by rw [HC2.out]; exact HW.out.2.2.2.1, by rw [HC2.out]; omega, by omega, HW.out.2.2.2.2, H5.out, HW.out.2.1.trans K5.out (fun _ h => .inl h)⟩
                  case measure => simp [intOf]; omega
                · have hL1 : ((L : Int) == 0) = false := by simp; omega
                  go_wp2_with fail
                  go_quiet (fail)
                  have HW := Lib.hid (And.intro (HY.out.1.drewN nq) (And.intro (show Kept T w1 (w2.drewN nq) from ⟨HY.out.2.1.os, HY.out.2.1.tape, HY.out.2.1.output, HY.out.2.1.size, HY.out.2.1.block⟩) (And.intro (show IntsAt (w2.drewN nq) (some ⟨gk, ok + 1, none⟩) r from ints_tail (fun j hj => HY.out.2.2.1 j hj)) (And.intro (show IntsIn r from HRI.out) (show ∀ a : Addr, ((some ⟨gk, ok + 1, none⟩) : Option Addr) = some a → ¬ T a.block from fun a h => by injection h with h; rw [← h]; exact HNT.out)))))
                  have c1f : (w2.drewN nq).cell? ⟨blk (keyS nm), 1, none⟩ = some (.int .i64 (F.sure : Int)) := c1f
                  have c2f : (w2.drewN nq).cell? ⟨blk (keyS nm), 2, none⟩ = some (.bool true) := c2f
                  clear HY hck
                  generalize w2.drewN nq = w3 at *
                  obtain ⟨w5, hrun5, hm5, ht5⟩ := HW.out.1.map.drop keyedS Tryz.underlying56 (keyB nm (by unfold maxLen; omega)) 0
                  have h5 := HW.out.1.dropped hm5 ht5
                  have k5 : Kept T w3 w5 := Kept.turned (T := T) (Kept.refl _ w3) ht5 (.inl H.out.minem)
                  have H5 := Lib.hid (show DiskBy tag blk bm w5 b { D with files := (crash1 st nm).1 } T by rw [HC1.out]; exact h5)
                  have K5 := Lib.hid k5
                  have c2h := HW.out.1.is.c2
                  clear hm5 ht5 h5 k5
                  go_wp2_with fail
                  go_roundw
                  case rel =>
                    refine ⟨i + 1, crash1 st nm, (some ⟨gk, ok + 1, none⟩), (c' - 1), by go_num, hil, HTK.out.symm, by (rw [HC2.out]) <;> rfl, by rw [HC2.out]; exact ints_kept (T := T) HW.out.2.2.1 K5.out HW.out.2.2.2.2, by rw [HC2.out]; exact HW.out.2.2.2.1, by rw [HC2.out]; omega, by omega, HW.out.2.2.2.2, H5.out, HW.out.2.1.trans K5.out (fun _ h => .inl h)⟩
                  case measure => simp [intOf]; omega
              · have HC := Lib.hid (show crash1 st nm = (setL st.1 (keyS nm) ⟨F.bytes.take (keptOf F x), keptOf F x, false⟩, r) by rw [HX1.out, if_neg (fun h => hx0 h.2)]; rfl)
                have HC1 := Lib.hid (congrArg Prod.fst HC.out)
                have HC2 := Lib.hid (congrArg Prod.snd HC.out)
                rw [hfr] at c2f
                have hlo0 : L = 0 ∨ L ≠ 0 := by omega
                clear hLf
                rcases hlo0 with hL0 | hL0
                · have hL1 : ((L : Int) == 0) = true := by rw [hL0]; rfl
                  clear hL0
                  go_wp2_with fail
                  go_quiet (fail)
                  have HW := Lib.hid (And.intro (HY.out.1.drewN nq) (And.intro (show Kept T w1 (w2.drewN nq) from ⟨HY.out.2.1.os, HY.out.2.1.tape, HY.out.2.1.output, HY.out.2.1.size, HY.out.2.1.block⟩) (And.intro (show IntsAt (w2.drewN nq) (some ⟨gk, ok + 1, none⟩) r from ints_tail (fun j hj => HY.out.2.2.1 j hj)) (And.intro (show IntsIn r from HRI.out) (show ∀ a : Addr, ((some ⟨gk, ok + 1, none⟩) : Option Addr) = some a → ¬ T a.block from fun a h => by injection h with h; rw [← h]; exact HNT.out)))))
                  have c1f : (w2.drewN nq).cell? ⟨blk (keyS nm), 1, none⟩ = some (.int .i64 (F.sure : Int)) := c1f
                  have c2f : (w2.drewN nq).cell? ⟨blk (keyS nm), 2, none⟩ = some (.bool true) := c2f
                  clear HY hck
                  generalize w2.drewN nq = w3 at *
                  obtain ⟨q, hq⟩ : ∃ q : Nat, q = min (max (x : Int) 0).toNat L := ⟨_, rfl⟩
                  have hqL : q ≤ L := by rw [hq]; exact Nat.min_le_right _ _
                  have e1 : min (max (x : Int) 0) (L : Int) = (q : Int) := by omega
                  have e3 : IntKind.i64.wrap ((F.sure : Int) + (q : Int)) = (F.sure : Int) + (q : Int) := by rw [IntKind.wrap_i64]; omega
                  have hkq : keptOf F (x) = F.sure + q := by unfold keptOf; rw [hL, ← hq]
                  have HLO3 := Lib.hid (FLoose_f HW.out.1.drew HFS.out)
                  rw [hL] at HLO3
                  have HSY := Lib.hid (fun m => FSync_f (HW.out.1.drewN m) HFS.out (F.sure + q) (by omega))
                  have hc5 : ((F.sure + q : Nat) : Int) = (F.sure : Int) + (q : Int) := by omega
                  rw [hc5] at HSY
                  have HMT := Lib.hid (show ∀ i, tag i = some (keyS nm) → T i from fun i hi => H.out.minet i _ hi)
                  have cd : w3.drew.cell? ⟨blk (keyS nm), 1, none⟩ = some (.int .i64 (F.sure : Int)) := c1f
                  have cn : ∀ m, (w3.drewN m).cell? ⟨blk (keyS nm), 1, none⟩ = some (.int .i64 (F.sure : Int)) := fun m => c1f
                  have hfb0 : blk (keyS nm) < w3.heap.size := lt_of_cell c1f
                  have HKQ := Lib.hid hkq
                  clear hq hkq hc5
                  go_wp2_with fail
                  go_region_with (first | (go_at_call 50; with_reducible refine HLO3.out.mono ?_; rintro e w7 ⟨rfl, m7, rfl⟩) | (go_at_call 51; with_reducible refine (HSY.out _).mono ?_; rintro e w8 ⟨rfl, h8, k8⟩))
                  all_goals
                    have h8' : DiskBy tag blk bm w8 b { D with files := (crash1 st nm).1 } T := by rw [HC1.out, HKQ.out]; exact h8
                    have k8' : Kept T w3 w8 := ⟨k8.os, k8.tape, k8.output, k8.size, fun i hi hn => k8.block i hi (fun e => hn (HMT.out i e))⟩
                    have H8 := Lib.hid h8'
                    have K8 := Lib.hid k8'
                    clear h8 k8 h8' k8' cd cn HSY HLO3
                    go_wp2_with fail
                    go_roundw
                    case rel =>
                      refine ⟨i + 1, crash1 st nm, (some ⟨gk, ok + 1, none⟩), (c' - 1), by go_num, hil, HTK.out.symm, by (rw [HC2.out]) <;> rfl, by rw [HC2.out]; exact ints_kept (T := T) HW.out.2.2.1 K8.out HW.out.2.2.2.2, by rw [HC2.out]; exact HW.out.2.2.2.1, by rw [HC2.out]; omega, by omega, HW.out.2.2.2.2, H8.out, HW.out.2.1.trans K8.out (fun _ h => .inl h)⟩
                    case measure => simp [intOf]; omega
                · have hL1 : ((L : Int) == 0) = false := by simp; omega
                  go_wp2_with fail
                  go_quiet (fail)
                  have HW := Lib.hid (And.intro (HY.out.1.drewN nq) (And.intro (show Kept T w1 (w2.drewN nq) from ⟨HY.out.2.1.os, HY.out.2.1.tape, HY.out.2.1.output, HY.out.2.1.size, HY.out.2.1.block⟩) (And.intro (show IntsAt (w2.drewN nq) (some ⟨gk, ok + 1, none⟩) r from ints_tail (fun j hj => HY.out.2.2.1 j hj)) (And.intro (show IntsIn r from HRI.out) (show ∀ a : Addr, ((some ⟨gk, ok + 1, none⟩) : Option Addr) = some a → ¬ T a.block from fun a h => by injection h with h; rw [← h]; exact HNT.out)))))
                  have c1f : (w2.drewN nq).cell? ⟨blk (keyS nm), 1, none⟩ = some (.int .i64 (F.sure : Int)) := c1f
                  have c2f : (w2.drewN nq).cell? ⟨blk (keyS nm), 2, none⟩ = some (.bool true) := c2f
                  clear HY hck
                  generalize w2.drewN nq = w3 at *
                  obtain ⟨q, hq⟩ : ∃ q : Nat, q = min (max (x : Int) 0).toNat L := ⟨_, rfl⟩
                  have hqL : q ≤ L := by rw [hq]; exact Nat.min_le_right _ _
                  have e1 : min (max (x : Int) 0) (L : Int) = (q : Int) := by omega
                  have e3 : IntKind.i64.wrap ((F.sure : Int) + (q : Int)) = (F.sure : Int) + (q : Int) := by rw [IntKind.wrap_i64]; omega
                  have hkq : keptOf F (x) = F.sure + q := by unfold keptOf; rw [hL, ← hq]
                  have HLO3 := Lib.hid (FLoose_f HW.out.1.drew HFS.out)
                  rw [hL] at HLO3
                  have HSY := Lib.hid (fun m => FSync_f (HW.out.1.drewN m) HFS.out (F.sure + q) (by omega))
                  have hc5 : ((F.sure + q : Nat) : Int) = (F.sure : Int) + (q : Int) := by omega
                  rw [hc5] at HSY
                  have HMT := Lib.hid (show ∀ i, tag i = some (keyS nm) → T i from fun i hi => H.out.minet i _ hi)
                  have cd : w3.drew.cell? ⟨blk (keyS nm), 1, none⟩ = some (.int .i64 (F.sure : Int)) := c1f
                  have cn : ∀ m, (w3.drewN m).cell? ⟨blk (keyS nm), 1, none⟩ = some (.int .i64 (F.sure : Int)) := fun m => c1f
                  have hfb0 : blk (keyS nm) < w3.heap.size := lt_of_cell c1f
                  have HKQ := Lib.hid hkq
                  clear hq hkq hc5
                  go_wp2_with fail
                  go_region_with (first | (go_at_call 50; with_reducible refine HLO3.out.mono ?_; rintro e w7 ⟨rfl, m7, rfl⟩) | (go_at_call 51; with_reducible refine (HSY.out _).mono ?_; rintro e w8 ⟨rfl, h8, k8⟩))
                  all_goals
                    have h8' : DiskBy tag blk bm w8 b { D with files := (crash1 st nm).1 } T := by rw [HC1.out, HKQ.out]; exact h8
                    have k8' : Kept T w3 w8 := ⟨k8.os, k8.tape, k8.output, k8.size, fun i hi hn => k8.block i hi (fun e => hn (HMT.out i e))⟩
                    have H8 := Lib.hid h8'
                    have K8 := Lib.hid k8'
                    clear h8 k8 h8' k8' cd cn HSY HLO3
                    go_wp2_with fail
                    go_roundw
                    case rel =>
                      refine ⟨i + 1, crash1 st nm, (some ⟨gk, ok + 1, none⟩), (c' - 1), by go_num, hil, HTK.out.symm, by (rw [HC2.out]) <;> rfl, by rw [HC2.out]; exact ints_kept (T := T) HW.out.2.2.1 K8.out HW.out.2.2.2.2, by rw [HC2.out]; exact HW.out.2.2.2.1, by rw [HC2.out]; omega, by omega, HW.out.2.2.2.2, H8.out, HW.out.2.1.trans K8.out (fun _ h => .inl h)⟩
                    case measure => simp [intOf]; omega
            | false =>
              have HC := Lib.hid (show crash1 st nm = (setL st.1 (keyS nm) ⟨F.bytes.take (keptOf F x), keptOf F x, false⟩, r) by rw [HX1.out, if_neg (fun h => by rw [hfr] at h; cases h.1)]; rfl)
              have HC1 := Lib.hid (congrArg Prod.fst HC.out)
              have HC2 := Lib.hid (congrArg Prod.snd HC.out)
              rw [hfr] at c2f
              have hL0 : L ≠ 0 := hLf.resolve_right (by rw [hfr]; decide)
              have hL1 : ((L : Int) == 0) = false := by simp; omega
              clear hLf
              go_wp2_with fail
              go_quiet (fail)
              have HW := Lib.hid (And.intro (HY.out.1.drewN nq) (And.intro (show Kept T w1 (w2.drewN nq) from ⟨HY.out.2.1.os, HY.out.2.1.tape, HY.out.2.1.output, HY.out.2.1.size, HY.out.2.1.block⟩) (And.intro (show IntsAt (w2.drewN nq) (some ⟨gk, ok + 1, none⟩) r from ints_tail (fun j hj => HY.out.2.2.1 j hj)) (And.intro (show IntsIn r from HRI.out) (show ∀ a : Addr, ((some ⟨gk, ok + 1, none⟩) : Option Addr) = some a → ¬ T a.block from fun a h => by injection h with h; rw [← h]; exact HNT.out)))))
              have c1f : (w2.drewN nq).cell? ⟨blk (keyS nm), 1, none⟩ = some (.int .i64 (F.sure : Int)) := c1f
              have c2f : (w2.drewN nq).cell? ⟨blk (keyS nm), 2, none⟩ = some (.bool false) := c2f
              clear HY hck
              generalize w2.drewN nq = w3 at *
              obtain ⟨q, hq⟩ : ∃ q : Nat, q = min (max (x : Int) 0).toNat L := ⟨_, rfl⟩
              have hqL : q ≤ L := by rw [hq]; exact Nat.min_le_right _ _
              have e1 : min (max (x : Int) 0) (L : Int) = (q : Int) := by omega
              have e3 : IntKind.i64.wrap ((F.sure : Int) + (q : Int)) = (F.sure : Int) + (q : Int) := by rw [IntKind.wrap_i64]; omega
              have hkq : keptOf F (x) = F.sure + q := by unfold keptOf; rw [hL, ← hq]
              have HLO3 := Lib.hid (FLoose_f HW.out.1.drew HFS.out)
              rw [hL] at HLO3
              have HSY := Lib.hid (fun m => FSync_f (HW.out.1.drewN m) HFS.out (F.sure + q) (by omega))
              have hc5 : ((F.sure + q : Nat) : Int) = (F.sure : Int) + (q : Int) := by omega
              rw [hc5] at HSY
              have HMT := Lib.hid (show ∀ i, tag i = some (keyS nm) → T i from fun i hi => H.out.minet i _ hi)
              have cd : w3.drew.cell? ⟨blk (keyS nm), 1, none⟩ = some (.int .i64 (F.sure : Int)) := c1f
              have cn : ∀ m, (w3.drewN m).cell? ⟨blk (keyS nm), 1, none⟩ = some (.int .i64 (F.sure : Int)) := fun m => c1f
              have hfb0 : blk (keyS nm) < w3.heap.size := lt_of_cell c1f
              have HKQ := Lib.hid hkq
              clear hq hkq hc5
              go_wp2_with fail
              go_region_with (first | (go_at_call 50; with_reducible refine HLO3.out.mono ?_; rintro e w7 ⟨rfl, m7, rfl⟩) | (go_at_call 51; with_reducible refine (HSY.out _).mono ?_; rintro e w8 ⟨rfl, h8, k8⟩))
              all_goals
                have h8' : DiskBy tag blk bm w8 b { D with files := (crash1 st nm).1 } T := by rw [HC1.out, HKQ.out]; exact h8
                have k8' : Kept T w3 w8 := ⟨k8.os, k8.tape, k8.output, k8.size, fun i hi hn => k8.block i hi (fun e => hn (HMT.out i e))⟩
                have H8 := Lib.hid h8'
                have K8 := Lib.hid k8'
                clear h8 k8 h8' k8' cd cn HSY HLO3
                go_wp2_with fail
                go_roundw
                case rel =>
                  refine ⟨i + 1, crash1 st nm, (some ⟨gk, ok + 1, none⟩), (c' - 1), by go_num, hil, HTK.out.symm, by (rw [HC2.out]) <;> rfl, by rw [HC2.out]; exact ints_kept (T := T) HW.out.2.2.1 K8.out HW.out.2.2.2.2, by rw [HC2.out]; exact HW.out.2.2.2.1, by rw [HC2.out]; omega, by omega, HW.out.2.2.2.2, H8.out, HW.out.2.1.trans K8.out (fun _ h => .inl h)⟩
                case measure => simp [intOf]; omega
    · obtain rfl : i = nl := by omega
      have hend : st.1 = crashed D keep := by rw [hst, HNL.out, List.take_length]; rfl
      rw [hend] at hdk
      have c3 := hdk.is.c3
      have c4 := hdk.is.c4
      have f3 := hdk.is.f3
      have f4 := hdk.is.f4
      have HDK := Lib.hid hdk
      have HKT2 := Lib.hid hkt
      clear hst hia hii hic hcm hpT hend hdk hkt
      generalize wr = w2 at *
      go_wp2
      go_ret
      have hk : Kept (fun i => i = b) w2 ((w2.setCell ⟨b, 3, none⟩ (.bool false)).setCell ⟨b, 4, none⟩ (.int .i64 0)) := Kept.setCell (T := fun i => i = b) (Kept.setCell (T := fun i => i = b) (Kept.refl _ w2) (.inl rfl) _) (.inl rfl) _
      have h0 := HDK.out
      have hkall : Kept T w ((w2.setCell ⟨b, 3, none⟩ (.bool false)).setCell ⟨b, 4, none⟩ (.int .i64 0)) := ((Kept.of_below (T := T) HB1.out).trans HKT2.out (fun _ h => .inl h)).trans (hk.mono fun i hi => by rw [hi]; exact h0.mineb) (fun _ h => .inl h)
      have hfin := h0.turned (D' := crashD D keep) rfl hk ((CellsAt.set (CellsAt.set h0.head (i := 3) (by omega) (.bool false)) (i := 4) (by omega) (.int .i64 0)).congr fun j hj => by
        have : j = 0 ∨ j = 1 ∨ j = 2 ∨ j = 3 ∨ j = 4 := by omega
        rcases this with rfl | rfl | rfl | rfl | rfl <;> rfl) ⟨h0.fine.few, h0.fine.room, h0.fine.fits, h0.fine.names, h0.fine.sure, h0.fine.apart, by show (0 : Nat) < 9223372036854775808; decide⟩
      refine ⟨rfl, ⟨tag, blk, bm, hfin.wide (fun _ h => .inl h) (fun i hi => ?_)⟩, hkall⟩
      rcases hi with hi | hi
      · exact Nat.lt_of_lt_of_le (H.out.old i hi) hkall.size
      · exact hi.2
end Go.Proofs.YtpiaplgbpjgjiaaGreatDoor.Dk
