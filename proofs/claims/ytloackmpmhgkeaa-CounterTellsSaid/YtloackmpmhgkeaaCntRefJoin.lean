/-
  The document's counters (layer 12): Join.
-/
import Derived.Test.YtloackmpmhgkeaaCntRefCl
import Derived.Deep.Upon
open Go Go.RowKit Go.Maps
namespace Go.Proofs.Ytloackmpmhgkeaa.Cnt
open Base Mp

/-- 'append(out, xs...)'. -/
theorem append_list (W : World) (base : Nat) (hb : base ≤ W.heap.size) (v : Value) (A : List CntD) (ho : W.ownsRow base 43 3 v A.length (A.flatMap cntC)) (p : Option Addr) (cap : Nat) (xs : List CntD) (hx : CntsArg W p xs) (hm : A.length + xs.length ≤ 4398046511104) :
    ∃ v' w', (Builtin.append_ #[22, 22] 22 #[v, .slice p xs.length cap]).run Try.prog W = .ok v' w' ∧
      w'.ownsRow base 43 3 v' (A ++ xs).length ((A ++ xs).flatMap cntC) ∧ Below base W w' ∧ W.heap.size ≤ w'.heap.size := by
  obtain ⟨i0, hi, hz0, hz1, hz2⟩ := info_parts infoCnt
  cases p with
  | none =>
    have hnil : xs = [] := by
      cases xs with
      | nil => rfl
      | cons x r => obtain ⟨b, o, h, _⟩ := hx 0 (by simp); cases h
    subst hnil
    have hf : ∃ base' sL sC, v = .slice base' sL sC ∧ sL ≤ sC := by
      rcases ho.2 with ⟨h1, _⟩ | ⟨g, cap', cur, h1, _, _, hnc, _⟩
      · exact ⟨_, _, _, h1, Nat.le_refl _⟩
      · exact ⟨_, _, _, h1, hnc⟩
    obtain ⟨base', sL, sC, rfl, hle⟩ := hf
    refine ⟨_, _, run_append_nothing W 22 22 22 43 i0 Try.underlying22 hi base' sL sC hle _ (Src.ofNil W Try.underlying22 cap), ?_, Below.refl _ _, Nat.le_refl _⟩
    rw [List.append_nil]; exact ho
  | some ad =>
    obtain ⟨v', w', h1, h2, h3, _, _⟩ := run_append_own_at (P := Try.prog) W base 22 22 43 i0 _ 3 32 Try.underlying22 hi hz0 hz1 hz2 rfl (by decide)
      v A.length _ ho ad xs.length cap (xs.flatMap cntC) (flat_len xs) (fun j u hj => by
        have hj3 : j < xs.length * 3 := by
          rcases Nat.lt_or_ge j (xs.length * 3) with h | h
          · exact h
          · rw [List.getElem?_eq_none (by rw [flat_len]; exact h)] at hj; cases hj
        obtain ⟨b, o, hp, hca, _⟩ := hx (j / 3) (by omega)
        injection hp with hp
        subst hp
        have hg := flat_get xs (j / 3) (by omega) (j % 3) (by omega)
        rw [show j / 3 * 3 + j % 3 = j by omega, hj] at hg
        rw [show (⟨b, o, none⟩ : Addr).add j = ⟨b, o + j / 3 * 3 + j % 3, none⟩ by
          rw [show o + j / 3 * 3 + j % 3 = o + j by omega]
          by_cases h0 : j = 0 <;> simp [Addr.add, h0]]
        have : j % 3 = 0 ∨ j % 3 = 1 ∨ j % 3 = 2 := by omega
        rcases this with h | h | h
        · rw [h] at hg ⊢; rw [Nat.add_zero, hca.c0]; exact hg.symm
        · rw [h] at hg ⊢; rw [hca.c1]; exact hg.symm
        · rw [h] at hg ⊢; rw [hca.c2]; exact hg.symm) (fun u hu => by
        obtain ⟨c, _, hc⟩ := List.mem_flatMap.1 hu
        simp only [cntC, u64, List.mem_cons, List.not_mem_nil, or_false] at hc
        rcases hc with rfl | rfl | rfl <;> rfl) (by unfold maxLen; omega) (by omega) hb
    refine ⟨v', w', h1, ?_, (Below.refl base W).grown h3 hb (fun q hq => (ho.lt q hq).1), h3.size⟩
    rw [List.flatMap_append, List.length_append]; exact h2
-- [[
theorem RJoin_f (w : World) (p q : Option Addr) (cap cap' : Nat) (a b : List CntD) (h : CntsArg w p a) (k : CntsArg w q b) (hn : a.length + b.length ≤ 4398046511102) :
    Calls Try.prog 17 #[.slice p a.length cap, .slice q b.length cap'] w fun e w' => ∃ q' cap2 m, e = .returned (.slice q' m.length cap2) ∧ CntsArg w' q' m ∧ may m = true ∧ fOf m = fOf (a ++ b) ∧ m.length ≤ a.length + b.length ∧ Below w.heap.size w w' := by
  have hal := (Below.refl w.heap.size w).alloc (Nat.le_refl _) (.cells #[] 43)
  have ho0 : (w.alloc (.cells #[] 43)).ownsRow w.heap.size 43 3 (.slice (some ⟨w.heap.size, 0, none⟩) 0 0) ([] : List CntD).length (([] : List CntD).flatMap cntC) := World.ownsRow_lit w #[] 0 (Nat.le_refl _) (Nat.zero_le _) rfl
  have hz := alloc_more w (.cells #[] 43)
  obtain ⟨v1, w1, hr1, ho1, hb1, hs1⟩ := append_list _ w.heap.size (by rw [hz]; omega) _ [] ho0 p cap a (h.below hal) (by simp; omega)
  rw [List.nil_append] at ho1
  obtain ⟨v2, w2, hr2, ho2, hb2, hs2⟩ := append_list w1 w.heap.size (by omega) v1 a ho1 q cap' b (k.below (hal.trans hb1)) (by omega)
  have hok : Oks (a ++ b) := fun c hc => (List.mem_append.1 hc).elim (h.ok c) (k.ok c)
  obtain ⟨q2, c2, rfl, ha2⟩ := arg_of_own ho2 rfl hok
  have HB := Lib.hid ((hal.trans hb1).trans hb2)
  have HC := Lib.hid (Clean_f w2 q2 c2 (a ++ b) ha2 (by rw [List.length_append]; omega))
  rw [List.length_append] at HC
  have HR1 := Lib.hid hr1
  have HR2 := Lib.hid hr2
  clear h k hal ho0 hz hr1 ho1 hb1 hs1 hr2 ho2 hb2 hs2 hok ha2
  go_enter Try.func17, Try.ntmps17
  go_wp2_with (first | (at_builtin; refine wpList_append_run rfl _ _ _ rfl rfl rfl HR1.out ?_) | (at_builtin; refine wpList_append_run rfl _ _ _ rfl rfl rfl HR2.out ?_))
  with_reducible refine HC.out.mono ?_
  rintro e w3 ⟨q3, c3, m, rfl, hq, hm, hf, hl, hb⟩
  have HX := Lib.hid (And.intro hq (And.intro hm (And.intro hf (And.intro hl (HB.out.trans (hb.mono HB.out.size))))))
  clear hq hm hf hl hb HC HB HR1 HR2
  go_wp2
  go_ret
  exact ⟨_, _, m, rfl, HX.out⟩
-- ]]
end Go.Proofs.Ytloackmpmhgkeaa.Cnt
