/-
  The document's counters (layer 12): Clean, Value.
-/
import Derived.Test.YtloackmpmhgkeaaCntRefPut
open Go Go.RowKit Go.Maps
namespace Go.Proofs.Ytloackmpmhgkeaa.Cnt
open Base Mp

theorem putR_oks {l : List CntD} {c : CntD} (hl : Oks l) (hc : CntOk c) : Oks (putR l c) := fun x hx => by
  unfold putR at hx
  cases hz : zeroC c
  · rw [hz] at hx
    rcases (mem_pgF c x l).1 hx with rfl | ⟨h, _⟩
    · exact hc
    · exact hl x h
  · rw [hz] at hx
    exact hl x ((mem_pgT c x l).1 hx).1
theorem Put_g (w : World) (p : Option Addr) (cap : Nat) (l : List CntD) (c : CntD) (h : CntsArg w p l) (hc : CntOk c) (hn : l.length ≤ 4398046511102) :
    Calls Try.prog 27 #[.slice p l.length cap, cntV c] w fun e w' => ∃ q cap', e = .returned (.slice q (putR l c).length cap') ∧ CntsArg w' q (putR l c) ∧ Below w.heap.size w w' := by
  refine (Put_f w p cap l c h hn).mono ?_
  rintro e w' ⟨v, rfl, ho, hb⟩
  obtain ⟨q, cap', rfl, h2⟩ := arg_of_own ho rfl (putR_oks h.ok hc)
  exact ⟨q, cap', rfl, h2, hb⟩
theorem of_ok {l : List CntD} (hl : Oks l) {k : Key} (hk : k.length ≤ maxLen) : CntOk ⟨k, (fOf l k).1, (fOf l k).2⟩ := ⟨hk, (mx_bound hl k).1, (mx_bound hl k).2⟩

theorem Clean_f (w : World) (p : Option Addr) (cap : Nat) (l : List CntD) (h : CntsArg w p l) (hn : l.length ≤ 4398046511102) :
    Calls Try.prog 28 #[.slice p l.length cap] w fun e w' => ∃ q cap' m, e = .returned (.slice q m.length cap') ∧ CntsArg w' q m ∧ may m = true ∧ fOf m = fOf l ∧ m.length ≤ l.length ∧ Below w.heap.size w w' := by
  have HA := Lib.hid h
  clear h
  go_enter Try.func28, Try.ntmps28
  go_wp2_with fail
  go_loopw [3, 4] (fun v u wr => ∃ (i : Nat) (q : Option Addr) (cc : Nat) (m : List CntD), v = .slice q m.length cc ∧ u = .int .i64 (i : Int) ∧ i ≤ l.length ∧ CntsArg wr q m ∧ may m = true ∧ fOf m = partF l i ∧ m.length ≤ i ∧ Below w.heap.size w wr) (fun _ u _ => l.length - (intOf u).toNat)
  case atStart => exact ⟨0, none, 0, [], rfl, rfl, Nat.zero_le _, fun j hj => by simp at hj, rfl, (partF_zero l).symm, Nat.le_refl _, Below.refl _ _⟩
  case round =>
    obtain ⟨i, q, cc, m, rfl, rfl, hi, hq, hm, hf, hl, hb⟩ := hrel
    have HQ := Lib.hid hq
    have HM := Lib.hid hm
    have HF := Lib.hid hf
    have HB := Lib.hid hb
    have HL := Lib.hid hl
    clear hq hm hf hb hl
    by_cases hlt : i < l.length
    · have HLT := Lib.hid hlt
      have hlw := HA.out.below HB.out
      obtain ⟨bb, oo, rfl, hca, hok⟩ := hlw i hlt
      have c0 := hca.c0
      have HST := Lib.hid (partF_step hlt)
      have HOF := Lib.hid (Of_f wr (some ⟨bb, oo, none⟩) cap l (l[i]).by_ hlw (by omega))
      have HCO := Lib.hid (of_ok HA.out.ok hok.by_)
      have HK := Lib.hid hok.by_
      clear hlw hca hok
      generalize hk : (l[i]).by_ = k at *
      clear hk
      unfold cntV u64 at HOF
      go_wp2_with fail
      with_reducible refine HOF.out.mono ?_
      rintro e w2 ⟨rfl, hb2⟩
      have HB2 := Lib.hid (later HB.out hb2)
      have hal := (Below.refl w2.heap.size w2).alloc (Nat.le_refl _) (.cells #[.string (B k), .int .u64 ((fOf l k).1 : Int), .int .u64 ((fOf l k).2 : Int)] 43)
      have HPUT := Lib.hid (Put_g _ q cc m ⟨k, (fOf l k).1, (fOf l k).2⟩ ((HQ.out.below hb2).below hal) HCO.out (by have := HL.out; omega))
      have HB3 := Lib.hid (later HB2.out hal)
      unfold cntV u64 at HPUT
      clear hb2 hal HOF HB2 c0
      go_wp2_with fail
      with_reducible refine HPUT.out.mono ?_
      rintro e w4 ⟨q2, cc2, rfl, hq2, hb4⟩
      have HQ2 := Lib.hid hq2
      have HB4 := Lib.hid (later HB3.out hb4)
      clear hq2 hb4 HPUT HB3
      go_wp2
      go_roundw
      case rel =>
        refine ⟨i + 1, q2, cc2, _, rfl, by go_num, HLT.out, HQ2.out, putR_may _ HM.out, ?_, ?_, HB4.out⟩
        · rw [putR_f _ HM.out, HF.out]; exact HST.out
        · have := putR_len m ⟨k, (fOf l k).1, (fOf l k).2⟩; have := HL.out; omega
      case measure => have := HLT.out; simp [intOf]; omega
    · obtain rfl : i = l.length := by omega
      go_wp2
      go_ret
      exact ⟨_, _, m, rfl, HQ.out, HM.out, by rw [HF.out, partF_all], HL.out, HB.out⟩
theorem sumC_snoc (l : List CntD) (c : CntD) : sumC (l ++ [c]) = sumC l + ((c.plus : Int) - c.minus) := by
  unfold sumC
  rw [List.map_append, List.sum_append]
  simp
theorem RValue_f (w : World) (p : Option Addr) (cap : Nat) (l : List CntD) (h : CntsArg w p l) (hn : l.length ≤ 4398046511102) :
    Calls Try.prog 14 #[.slice p l.length cap] w fun e w' => e = .returned (.int .i64 (valE l)) ∧ Below w.heap.size w w' := by
  have HA := Lib.hid h
  have HC := Lib.hid (Clean_f w p cap l h hn)
  clear h
  go_enter Try.func14, Try.ntmps14
  go_wp2_with fail
  with_reducible refine HC.out.mono ?_
  rintro e w1 ⟨q, cc, m, rfl, hq, hm, hf, hl, hb⟩
  have HQ := Lib.hid hq
  have HV := Lib.hid (sumC_valE hm hf HA.out.ok)
  have HB := Lib.hid hb
  clear hq hm hf hb HC
  go_wp2_with fail
  go_loopw [3, 5] (fun v u wr => ∃ (i n : Nat) (acc : Int), v = .int .u64 acc ∧ u = .int .i64 (i : Int) ∧ i ≤ m.length ∧ 0 ≤ acc ∧ acc < 18446744073709551616 ∧ acc % 2 ^ 64 = sumC (m.take i) % 2 ^ 64 ∧ wr = w1.drewN n) (fun _ u _ => m.length - (intOf u).toNat)
  case atStart => exact ⟨0, 0, 0, rfl, rfl, Nat.zero_le _, by omega, by omega, by simp [sumC], rfl⟩
  case round =>
    obtain ⟨i, n, acc, rfl, rfl, hi, a0, a1, hs, rfl⟩ := hrel
    have HS := Lib.hid hs
    clear hs
    by_cases hlt : i < m.length
    · have HLT := Lib.hid hlt
      have HTK := Lib.hid (show sumC (m.take (i + 1)) = sumC (m.take i) + (((m[i]).plus : Int) - (m[i]).minus) by rw [List.take_succ_eq_append_getElem hlt, sumC_snoc]; rfl)
      obtain ⟨bb, oo, rfl, ⟨c0, c1, c2⟩, hok⟩ := HQ.out i hlt
      have hp := hok.plus
      have hm := hok.minus
      have i0 : 0 ≤ (i : Int) := by omega
      have i1 : (i : Int) < (m.length : Int) := by omega
      clear hok
      generalize m[i] = c at *
      have HAA := Lib.hid (And.intro a0 a1)
      clear hp hm a0 a1
      go_wp2_with fail
      go_quiet (fail)
      go_wp2
      go_roundw
      case rel =>
        refine ⟨i + 1, _, _, rfl, by go_num, HLT.out, ?_, ?_, ?_, rfl⟩
        · rw [wrap_u64]; omega
        · rw [wrap_u64]; omega
        · rw [HTK.out, wrap_u64, wrap_u64]; have := HS.out; omega
      case measure => have := HLT.out; simp [intOf]; omega
    · obtain rfl : i = m.length := by omega
      have hs := HS.out
      rw [List.take_length] at hs
      have HW := Lib.hid (show wrap64 acc = valE l by rw [← HV.out]; exact wrap_mod hs)
      clear hs
      go_wp2
      go_ret
      exact ⟨by rw [← HW.out]; rfl, HB.out.drewN _⟩

end Go.Proofs.Ytloackmpmhgkeaa.Cnt
