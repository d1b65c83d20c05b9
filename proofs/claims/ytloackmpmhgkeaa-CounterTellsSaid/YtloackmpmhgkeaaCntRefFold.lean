/-
  The document's counters (layer 12): Fold.
-/
import Derived.Test.YtloackmpmhgkeaaCntRefCl
open Go Go.RowKit Go.Maps
namespace Go.Proofs.Ytloackmpmhgkeaa.Cnt
open Base Mp

theorem hasT_iff (l : List CntD) (k : Key) : hasT l k l.length = true ↔ k ∈ l.map (·.by_) := by
  unfold hasT
  rw [List.take_length, List.any_eq_true, List.mem_map]
  constructor
  · rintro ⟨c, hc, h⟩; exact ⟨c, hc, by simpa using h⟩
  · rintro ⟨c, hc, h⟩; exact ⟨c, hc, by simpa using h⟩
theorem foldF_not {f : Fn} {k : Key} (hf : ∀ j, (f j).1 < 2 ^ 64 ∧ (f j).2 < 2 ^ 64) (h : k = [] ∨ f k = (0, 0)) : foldF f k = f := by
  funext j
  unfold foldF
  by_cases hk : k = []
  · rw [if_pos hk]
  · rw [if_neg hk]
    have h0 : f k = (0, 0) := h.resolve_left hk
    by_cases hj : j = k
    · rw [if_pos hj, hj, h0]
    · rw [if_neg hj]
      by_cases hj0 : j = []
      · subst hj0
        rw [if_pos rfl, h0]
        obtain ⟨h1, h2⟩ := hf []
        unfold tog
        simp only [Nat.add_zero, Nat.mod_eq_of_lt h1, Nat.mod_eq_of_lt h2]
      · rw [if_neg hj0]
theorem foldF_set {f : Fn} {k : Key} (hk : ¬ k = []) : setF (setF f k (0, 0)) [] (tog (f []).1 (f k).1, tog (f []).2 (f k).2) = foldF f k := by
  funext j
  unfold setF foldF
  rw [if_neg hk]
  by_cases hj : j = []
  · subst hj
    rw [if_pos rfl, if_neg (fun e => hk e.symm), if_pos rfl]
  · rw [if_neg hj]
    by_cases hjk : j = k
    · rw [if_pos hjk, if_pos hjk]
    · rw [if_neg hjk, if_neg hjk, if_neg hj]
theorem Put_z (k : Key) (hk : k.length ≤ maxLen) (W : World) (q : Option Addr) (c : Nat) (m : List CntD) (h : CntsArg W q m) (hn : m.length ≤ 4398046511102) :
    Calls Try.prog 27 #[.slice q m.length c, .agg #[.string (B k), .int .u64 0, .int .u64 0]] W fun e w' => ∃ q' c', e = .returned (.slice q' (putR m ⟨k, 0, 0⟩).length c') ∧ CntsArg w' q' (putR m ⟨k, 0, 0⟩) ∧ Below W.heap.size W w' := Put_g W q c m ⟨k, 0, 0⟩ h ⟨hk, by simp, by simp⟩ hn
theorem Put_e (a b : Nat) (hk : CntOk ⟨[], a, b⟩) (W : World) (q : Option Addr) (c : Nat) (m : List CntD) (h : CntsArg W q m) (hn : m.length ≤ 4398046511102) :
    Calls Try.prog 27 #[.slice q m.length c, .agg #[.string ⟨#[]⟩, .int .u64 (a : Int), .int .u64 (b : Int)]] W fun e w' => ∃ q' c', e = .returned (.slice q' (putR m ⟨[], a, b⟩).length c') ∧ CntsArg w' q' (putR m ⟨[], a, b⟩) ∧ Below W.heap.size W w' := Put_g W q c m ⟨[], a, b⟩ h hk hn
theorem Put_n (k : Key) (a b : Nat) (hk : CntOk ⟨k, a, b⟩) (W : World) (q : Option Addr) (c : Nat) (m : List CntD) (h : CntsArg W q m) (hn : m.length ≤ 4398046511102) :
    Calls Try.prog 27 #[.slice q m.length c, .agg #[.string (B k), .int .u64 (a : Int), .int .u64 (b : Int)]] W fun e w' => ∃ q' c', e = .returned (.slice q' (putR m ⟨k, a, b⟩).length c') ∧ CntsArg w' q' (putR m ⟨k, a, b⟩) ∧ Below W.heap.size W w' := Put_g W q c m ⟨k, a, b⟩ h hk hn
set_option maxHeartbeats 1000000 in
theorem RFold_f (w : World) (p : Option Addr) (cap : Nat) (l : List CntD) (k : Key) (h : CntsArg w p l) (hn : l.length ≤ 4398046511000) (hk : k.length ≤ maxLen) :
    Calls Try.prog 19 #[.slice p l.length cap, .string (B k)] w fun e w' => ∃ q' cap2 m, e = .returned (.slice q' m.length cap2) ∧ CntsArg w' q' m ∧ may m = true ∧ fOf m = foldF (fOf l) k ∧ m.length ≤ l.length + 2 ∧ Below w.heap.size w w' := by
  have HA := Lib.hid h
  have HOF := Lib.hid (Of_f w p cap l k h (by omega))
  have HK := Lib.hid hk
  have HBD := Lib.hid (fun j => mx_bound h.ok j)
  clear h hk
  unfold cntV u64 at HOF
  by_cases hs : k = [] ∨ hasT l k l.length = false
  · have HFN := Lib.hid (foldF_not (f := fOf l) (k := k) HBD.out (hs.imp id fun h => by
      refine fOf_none l k fun c hc e => ?_
      have := (hasT_iff l k).2 (List.mem_map.2 ⟨c, hc, e⟩)
      rw [this] at h; cases h))
    have hcase : (k.isEmpty = true ∧ k = []) ∨ (k.isEmpty = false ∧ hasT l k l.length = false) := by
      rcases hs with h | h
      · exact .inl ⟨by rw [h]; rfl, h⟩
      · cases k
        · exact .inl ⟨rfl, rfl⟩
        · exact .inr ⟨rfl, h⟩
    clear hs
    rcases hcase with ⟨t1, -⟩ | ⟨t1, t2⟩
    all_goals
      go_enter Try.func19, Try.ntmps19
      go_wp2_with fail
      with_reducible refine HOF.out.mono ?_
      rintro e w1 ⟨rfl, hb1⟩
      have HB1 := Lib.hid hb1
      clear hb1 HOF
      go_wp2_with fail
      have hal := (Below.refl w1.heap.size w1).alloc (Nat.le_refl _) (.cells #[.string (B k), .int .u64 ((fOf l k).1 : Int), .int .u64 ((fOf l k).2 : Int)] 43)
      have HB2 := Lib.hid (later HB1.out hal)
      clear hal HB1
      with_reducible refine (Clean_f _ p cap l (HA.out.below HB2.out) (by omega)).mono ?_
      rintro e w3 ⟨q3, c3, m, rfl, hq, hm, hf, hl, hb⟩
      have HX := Lib.hid (And.intro hq (And.intro hm (And.intro (hf.trans HFN.out.symm) (And.intro (Nat.le_trans hl (Nat.le_add_right _ 2)) (later HB2.out hb)))))
      clear hq hm hf hl hb HB2
      go_wp2
      go_ret
      exact ⟨_, _, m, rfl, HX.out⟩
  · have hk0 : ¬ k = [] := fun e => hs (.inl e)
    have t1 : k.isEmpty = false := by cases k; exact absurd rfl hk0; rfl
    have t2 : hasT l k l.length = true := by
      cases hh : hasT l k l.length
      · exact absurd (.inr hh) hs
      · rfl
    have HFS := Lib.hid (foldF_set (f := fOf l) hk0)
    clear hs
    go_enter Try.func19, Try.ntmps19
    go_wp2_with fail
    with_reducible refine HOF.out.mono ?_
    rintro e w1 ⟨rfl, hb1⟩
    have HB1 := Lib.hid hb1
    clear hb1 HOF
    go_wp2_with fail
    have hal := (Below.refl w1.heap.size w1).alloc (Nat.le_refl _) (.cells #[.string (B k), .int .u64 ((fOf l k).1 : Int), .int .u64 ((fOf l k).2 : Int)] 43)
    have HB2 := Lib.hid (later HB1.out hal)
    have hcs := cells_made w1 #[.string (B k), .int .u64 ((fOf l k).1 : Int), .int .u64 ((fOf l k).2 : Int)] 43
    have hd1 := (hcs 1 (by simp)).1
    have hd2 := (hcs 2 (by simp)).1
    clear hal HB1 hcs
    have HOF2 := Lib.hid (Of_f _ p cap l [] (HA.out.below HB2.out) (by omega))
    unfold cntV u64 at HOF2
    rw [show B [] = ⟨#[]⟩ from rfl] at HOF2
    generalize w1.alloc (.cells #[.string (B k), .int .u64 ((fOf l k).1 : Int), .int .u64 ((fOf l k).2 : Int)] 43) = w2 at *
    have HD := Lib.hid (And.intro hd1 hd2)
    clear hd1 hd2
    with_reducible refine HOF2.out.mono ?_
    rintro e w3 ⟨rfl, hb3⟩
    have e1 := (hb3.cell (p := ⟨w1.heap.size, 1, none⟩) (lt_of_cell HD.out.1)).trans HD.out.1
    have e2 := (hb3.cell (p := ⟨w1.heap.size, 2, none⟩) (lt_of_cell HD.out.2)).trans HD.out.2
    have hlt3 : w1.heap.size < w3.heap.size := lt_of_cell e1
    have HB3 := Lib.hid (later HB2.out hb3)
    clear hb3 HOF2 HB2 HD
    obtain ⟨x1, x2⟩ := HBD.out k
    obtain ⟨y1, y2⟩ := HBD.out []
    have g1 : IntKind.u64.wrap (((fOf l []).1 : Int) + ((fOf l k).1 : Int)) = ((tog (fOf l []).1 (fOf l k).1 : Nat) : Int) := by rw [wrap_u64]; unfold tog; omega
    have g2 : IntKind.u64.wrap (((fOf l []).2 : Int) + ((fOf l k).2 : Int)) = ((tog (fOf l []).2 (fOf l k).2 : Nat) : Int) := by rw [wrap_u64]; unfold tog; omega
    have HTG := Lib.hid (show CntOk ⟨[], tog (fOf l []).1 (fOf l k).1, tog (fOf l []).2 (fOf l k).2⟩ from ⟨by simp, Nat.mod_lt _ (by decide), Nat.mod_lt _ (by decide)⟩)
    go_wp2_with fail
    have hal4 := (Below.refl w3.heap.size w3).alloc (Nat.le_refl _) (.cells #[.string ⟨#[]⟩, .int .u64 ((tog (fOf l []).1 (fOf l k).1 : Nat) : Int), .int .u64 ((tog (fOf l []).2 (fOf l k).2 : Nat) : Int)] 43)
    have hcs4 := cells_made w3 #[.string ⟨#[]⟩, .int .u64 ((tog (fOf l []).1 (fOf l k).1 : Nat) : Int), .int .u64 ((tog (fOf l []).2 (fOf l k).2 : Nat) : Int)] 43
    have d0 := (hcs4 0 (by simp)).1
    have d1 := (hcs4 1 (by simp)).1
    have d2 := (hcs4 2 (by simp)).1
    have HB4 := Lib.hid (later HB3.out hal4)
    clear hal4 hcs4 g1 g2 e1 e2 x1 x2 y1 y2 hlt3 HB3
    generalize w3.alloc (.cells #[.string ⟨#[]⟩, .int .u64 ((tog (fOf l []).1 (fOf l k).1 : Nat) : Int), .int .u64 ((tog (fOf l []).2 (fOf l k).2 : Nat) : Int)] 43) = w4 at *
    have HD := Lib.hid (And.intro d0 (And.intro d1 (And.intro d2 (lt_of_cell d0))))
    simp only at d0 d1 d2
    have HCL := Lib.hid (Clean_f w4.drew p cap l ((HA.out.below HB4.out).below (Below.refl _ _).drew) (by omega))
    go_region_with (first
      | (go_at_call 28; (with_reducible refine HCL.out.mono ?_); rintro e w5 ⟨q5, c5, m5, rfl, hq5, hm5, hf5, hl5, hb5⟩; have u0 := (hb5.cell (p := ⟨w3.heap.size, 0, none⟩) HD.out.2.2.2).trans HD.out.1; have u1 := (hb5.cell (p := ⟨w3.heap.size, 1, none⟩) HD.out.2.2.2).trans HD.out.2.1; have u2 := (hb5.cell (p := ⟨w3.heap.size, 2, none⟩) HD.out.2.2.2).trans HD.out.2.2.1)
      | (go_at_call 27; (with_reducible refine (Put_z k HK.out _ q5 c5 m5 hq5 (by omega)).mono ?_); rintro e w6 ⟨q6, c6, rfl, hq6, hb6⟩; have r0 := (hb6.cell (p := ⟨w3.heap.size, 0, none⟩) (lt_of_cell u0)).trans u0; have r1 := (hb6.cell (p := ⟨w3.heap.size, 1, none⟩) (lt_of_cell u1)).trans u1; have r2 := (hb6.cell (p := ⟨w3.heap.size, 2, none⟩) (lt_of_cell u2)).trans u2)
      | (go_at_call 27; (with_reducible refine (Put_e _ _ HTG.out _ q6 c6 _ hq6 (by have := putR_len m5 ⟨k, 0, 0⟩; omega)).mono ?_); rintro e w7 ⟨q7, c7, rfl, hq7, hb7⟩))
    all_goals
      have hfin : fOf (putR (putR m5 ⟨k, 0, 0⟩) ⟨[], tog (fOf l []).1 (fOf l k).1, tog (fOf l []).2 (fOf l k).2⟩) = foldF (fOf l) k := by
        rw [putR_f _ (putR_may _ hm5), putR_f _ hm5, hf5]
        exact HFS.out
      have HX := Lib.hid (And.intro hq7 (And.intro (putR_may ⟨[], tog (fOf l []).1 (fOf l k).1, tog (fOf l []).2 (fOf l k).2⟩ (putR_may ⟨k, 0, 0⟩ hm5)) (And.intro hfin (And.intro (show (putR (putR m5 ⟨k, 0, 0⟩) ⟨[], tog (fOf l []).1 (fOf l k).1, tog (fOf l []).2 (fOf l k).2⟩).length ≤ l.length + 2 by
        have h1 := putR_len (putR m5 ⟨k, 0, 0⟩) ⟨[], tog (fOf l []).1 (fOf l k).1, tog (fOf l []).2 (fOf l k).2⟩
        have h2 := putR_len m5 ⟨k, 0, 0⟩
        omega) (later (later (later HB4.out ((Below.refl _ w4).drew.trans hb5)) hb6) hb7)))))
      clear hq5 hm5 hf5 hl5 hb5 hq6 hb6 hq7 hb7 u0 u1 u2 r0 r1 r2 d0 d1 d2 HCL HD hfin
      go_wp2
      go_ret
      exact ⟨_, _, _, rfl, HX.out⟩
end Go.Proofs.Ytloackmpmhgkeaa.Cnt
