/-
  Swim (layer 22): the document's example, walked. No condition.
-/
import Derived.Test.YtekjmkjghlbkbaaSwSmall
import Derived.Test.YtekjmkjghlbkbaaSwTickBegin
import Derived.Test.YtekjmkjghlbkbaaSwTickRound
import Derived.Test.YtekjmkjghlbkbaaSwTickLost
open Go Go.RowKit Go.Sort
namespace Go.Proofs.Ytekjmkjghlbkbaa.Sw
open Base

/-- A row of asks, taken apart. -/
theorem asks_form {w : World} {base : Nat} {v : Value} {A : List AskD} (h : w.ownsRow base 39 3 v A.length (A.flatMap askC)) : ∃ p cap, v = .slice p A.length cap ∧ ∀ j (hj : j < A.length), ∃ g, p = some ⟨g, 0, none⟩ ∧ base ≤ g ∧ g < w.heap.size ∧ w.cell? ⟨g, 3 * j, none⟩ = some (.string (B A[j].to)) ∧ w.cell? ⟨g, 3 * j + 1, none⟩ = some (.string (B A[j].for_)) ∧ w.cell? ⟨g, 3 * j + 2, none⟩ = some (.int .u64 (A[j].seq : Int)) := by
  obtain ⟨hl, h2 | ⟨g, cap, cur, rfl, hg, hb, hnc, hcm, hcs, ht⟩⟩ := h
  · obtain ⟨rfl, h3⟩ := h2
    have hA : A = [] := by
      cases A with
      | nil => rfl
      | cons x r => simp at h3
    subst hA
    exact ⟨none, 0, rfl, fun j hj => absurd hj (by simp)⟩
  · refine ⟨some ⟨g, 0, none⟩, cap, rfl, fun j hj => ?_⟩
    have hlt : g < w.heap.size := by
      rcases Nat.lt_or_ge g w.heap.size with h | h
      · exact h
      · rw [Array.getElem?_eq_none h] at hb; cases hb
    have key : ∀ i, i < A.length * 3 → w.cell? ⟨g, i, none⟩ = (A.flatMap askC)[i]? := fun i hi => by
      rw [← ht, List.getElem?_take_of_lt (by omega)]
      simp [World.cell?, hb]
    have hat : ∀ k, k < 3 → (A.flatMap askC)[3 * j + k]? = (askC A[j])[k]? := fun k hk => by
      have hf : (A.flatMap askC) = (A.take j).flatMap askC ++ (askC A[j] ++ (A.drop (j + 1)).flatMap askC) := by
        conv => lhs; rw [← List.take_append_drop j A]
        rw [List.flatMap_append, List.drop_eq_getElem_cons hj, List.flatMap_cons]
      have hlen : ((A.take j).flatMap askC).length = 3 * j := by
        have : ∀ l : List AskD, (l.flatMap askC).length = 3 * l.length := fun l => by
          induction l with
          | nil => rfl
          | cons x r ih => rw [List.flatMap_cons, List.length_append, ih]; simp [askC]; omega
        rw [this, List.length_take]; omega
      rw [hf, List.getElem?_append_right (by omega), hlen, List.getElem?_append_left (by simp [askC]; omega)]
      congr 1
      omega
    exact ⟨g, rfl, hg, hlt, by rw [key _ (by omega)]; exact hat 0 (by omega), by rw [key _ (by omega)]; exact hat 1 (by omega), by rw [key _ (by omega)]; exact hat 2 (by omega)⟩
theorem strs_form {w : World} {base : Nat} {v : Value} {L : List Key} (h : w.ownsRow base 9 1 v L.length (L.map strC)) : ∃ p cap, v = .slice p L.length cap ∧ ∀ j (hj : j < L.length), ∃ g, p = some ⟨g, 0, none⟩ ∧ base ≤ g ∧ g < w.heap.size ∧ w.cell? ⟨g, j, none⟩ = some (.string (B L[j])) := by
  obtain ⟨hl, h2 | ⟨g, cap, cur, rfl, hg, hb, hnc, hcm, hcs, ht⟩⟩ := h
  · obtain ⟨rfl, h3⟩ := h2
    have hA : L = [] := by simpa using h3
    subst hA
    exact ⟨none, 0, rfl, fun j hj => absurd hj (by simp)⟩
  · refine ⟨some ⟨g, 0, none⟩, cap, rfl, fun j hj => ?_⟩
    have hlt : g < w.heap.size := by
      rcases Nat.lt_or_ge g w.heap.size with h | h
      · exact h
      · rw [Array.getElem?_eq_none h] at hb; cases hb
    refine ⟨g, rfl, hg, hlt, ?_⟩
    have h1 : (cur.toList.take (L.length * 1))[j]? = (L.map strC)[j]? := by rw [ht]
    rw [List.getElem?_take_of_lt (by omega), List.getElem?_map, List.getElem?_eq_getElem hj] at h1
    simp [World.cell?, hb, strC] at h1 ⊢
    exact h1
theorem cell_kept {w w' : World} {b : Nat} (h : Kept (fun x => x = b) w w') {g i : Nat} (hg : g < w.heap.size) (hne : g ≠ b) : w'.cell? ⟨g, i, none⟩ = w.cell? ⟨g, i, none⟩ := World.cell?_of_block (a := ⟨g, i, none⟩) (h.block g hg hne)
def sA0 : SwD := ⟨5, 2, 3, 0, false, [], 0, 0, false⟩
def sA1 : SwD := ⟨5, 2, 3, 0, true, [97], 1, 0, false⟩
def sA2 : SwD := ⟨5, 2, 3, 2, true, [97], 1, 0, true⟩
def sA3 : SwD := ⟨5, 2, 3, 5, true, [98], 2, 5, false⟩
def ksA : List Key := [[97], [98]]
theorem ksA_rise : ksA.Pairwise (· < ·) := by decide
theorem ksA_tidy : tidyL ksA = ksA := tidy_id ksA ksA_rise (by decide)
theorem strs_AB (w : World) : StrsArg (w.alloc (.cells #[.string ⟨#[97]⟩, .string ⟨#[98]⟩] 9)) (some ⟨w.heap.size, 0, none⟩) ksA := fun j hj => by
  have hc := cells_made w #[.string ⟨#[97]⟩, .string ⟨#[98]⟩] 9
  refine ⟨w.heap.size, 0, rfl, ?_⟩
  have hj2 : j < 2 := hj
  rw [Nat.zero_add, (hc j hj2).1]
  have : j = 0 ∨ j = 1 := by omega
  rcases this with rfl | rfl <;> rfl
theorem tick1 (W : World) (b L : Nat) (h : SwAt W b sA0) (hp : StrsArg W (some ⟨L, 0, none⟩) ksA) : Calls Try.prog 10 #[.pointer (some ⟨b, 0, none⟩), .int .i64 0, .slice (some ⟨L, 0, none⟩) 2 2, .int .u64 0] W (TickPost W b sA1 [⟨[97], [], 1⟩] []) := by
  have t := Tick_begin W b sA0 (some ⟨L, 0, none⟩) 2 ksA 0 0 h hp (by decide) (by decide) (by rw [ksA_tidy]; exact ksA_rise) (by decide) (by decide) (by decide) (by decide) rfl (by rw [ksA_tidy]; decide) (.inl rfl)
  rw [ksA_tidy, show nextK sA0 ksA = [97] by decide] at t
  exact t
theorem tick2 (W : World) (b L : Nat) (h : SwAt W b sA1) (hp : StrsArg W (some ⟨L, 0, none⟩) ksA) : Calls Try.prog 10 #[.pointer (some ⟨b, 0, none⟩), .int .i64 2, .slice (some ⟨L, 0, none⟩) 2 2, .int .u64 7] W (TickPost W b sA2 [⟨[98], [97], 1⟩] []) := by
  have t := Tick_round W b sA1 (some ⟨L, 0, none⟩) 2 ksA 2 7 h hp (by decide) (by decide) (by rw [ksA_tidy]; exact ksA_rise) (by decide) (by decide) (by decide) (by decide) (by decide) rfl (by rw [ksA_tidy]; decide) (by decide) (by decide) rfl
  rw [ksA_tidy, show roundL (askd (nowS sA1 2)) ksA 7 = [⟨[98], [97], 1⟩] by rfl] at t
  exact t
theorem tick3 (W : World) (b L : Nat) (h : SwAt W b sA2) (hp : StrsArg W (some ⟨L, 0, none⟩) ksA) : Calls Try.prog 10 #[.pointer (some ⟨b, 0, none⟩), .int .i64 5, .slice (some ⟨L, 0, none⟩) 2 2, .int .u64 0] W (TickPost W b sA3 [⟨[98], [], 2⟩] [[97]]) := by
  have t := Tick_lost W b sA2 (some ⟨L, 0, none⟩) 2 ksA 5 0 h hp (by decide) (by decide) (by rw [ksA_tidy]; exact ksA_rise) (by decide) (by decide) (by decide) (by decide) rfl (by rw [ksA_tidy]; decide) (by decide)
  rw [ksA_tidy, show nextK sA2 ksA = [98] by decide] at t
  exact t
theorem got1 (W : World) (b : Nat) (h : SwAt W b sA3) : Calls Try.prog 11 #[.pointer (some ⟨b, 0, none⟩), .int .u64 1] W fun e w' => e = .returned (.bool false) ∧ W = w' := Got_no W b sA3 1 h (.inr (by decide))
theorem got2 (W : World) (b : Nat) (h : SwAt W b sA3) : Calls Try.prog 11 #[.pointer (some ⟨b, 0, none⟩), .int .u64 2] W fun e w' => e = .returned (.bool true) ∧ SwAt w' b (shut sA3) ∧ Kept (fun x => x = b) W w' := Got_yes W b sA3 h rfl
/-- What is known of a row of one ask. -/
def Row1 (w : World) (g : Nat) (x : AskD) : Prop := g < w.heap.size ∧ w.cell? ⟨g, 0, none⟩ = some (.string (B x.to)) ∧ w.cell? ⟨g, 1, none⟩ = some (.string (B x.for_)) ∧ w.cell? ⟨g, 2, none⟩ = some (.int .u64 (x.seq : Int))
theorem Row1.kept {w w' : World} {b g : Nat} {x : AskD} (h : Row1 w g x) (hk : Kept (fun x => x = b) w w') (hne : g ≠ b) : Row1 w' g x :=
  ⟨Nat.lt_of_lt_of_le h.1 hk.size, (cell_kept hk h.1 hne).trans h.2.1, (cell_kept hk h.1 hne).trans h.2.2.1, (cell_kept hk h.1 hne).trans h.2.2.2⟩
theorem one_ask {w : World} {base : Nat} {v : Value} {x : AskD} (h : w.ownsRow base 39 3 v [x].length ([x].flatMap askC)) : ∃ g cap, v = .slice (some ⟨g, 0, none⟩) 1 cap ∧ base ≤ g ∧ Row1 w g x := by
  obtain ⟨p, cap, rfl, hA⟩ := asks_form h
  obtain ⟨g, rfl, h1, h2, h3, h4, h5⟩ := hA 0 (by simp)
  exact ⟨g, cap, rfl, h1, h2, h3, h4, h5⟩
theorem no_strs {w : World} {base : Nat} {v : Value} (h : w.ownsRow base 9 1 v ([] : List Key).length (([] : List Key).map strC)) : ∃ p cap, v = .slice p 0 cap := by
  obtain ⟨p, cap, rfl, _⟩ := strs_form h
  exact ⟨p, cap, rfl⟩
theorem one_str {w : World} {base : Nat} {v : Value} {k : Key} (h : w.ownsRow base 9 1 v [k].length ([k].map strC)) : ∃ g cap, v = .slice (some ⟨g, 0, none⟩) 1 cap ∧ base ≤ g ∧ g < w.heap.size ∧ w.cell? ⟨g, 0, none⟩ = some (.string (B k)) := by
  obtain ⟨p, cap, rfl, hA⟩ := strs_form h
  obtain ⟨g, rfl, h1, h2, h3⟩ := hA 0 (by simp)
  exact ⟨g, cap, rfl, h1, h2, h3⟩
theorem StrsArg.kept {w w' : World} {L : Nat} {ks : List Key} {b : Nat} (h : StrsArg w (some ⟨L, 0, none⟩) ks) (hk : Kept (fun x => x = b) w w') (hne : L ≠ b) : StrsArg w' (some ⟨L, 0, none⟩) ks := fun j hj => by
  obtain ⟨c, o, he, hc⟩ := h j hj
  injection he with he
  injection he with h1 h2
  subst h1 h2
  exact ⟨L, 0, rfl, (cell_kept hk (lt_of_cell hc) hne).trans hc⟩
set_option maxRecDepth 100000 in
set_option maxHeartbeats 4000000 in
theorem Works_f (w : World) : Calls Try.prog 8 #[] w fun e w' => e = .returned (.bool true) ∧ Below w.heap.size w w' := by
  have HN := Lib.hid (New_f w 5 2 3 (by decide) (by decide) (by decide) (by decide) (by decide))
  go_enter Try.func8, Try.ntmps8
  go_wp2_with fail
  with_reducible refine HN.out.mono ?_
  rintro e w1 ⟨rfl, hs0, hb0⟩
  have HS0 := Lib.hid (show SwAt w1 (w.heap.size + 1) sA0 from hs0)
  have HB0 := Lib.hid hb0
  clear hs0 hb0 HN
  obtain ⟨b, hb⟩ : ∃ b, b = w.heap.size + 1 := ⟨_, rfl⟩
  rw [← hb] at HS0 ⊢
  have HBb := Lib.hid hb
  clear hb
  have HQ0 := Lib.hid (strs_AB w1)
  have HS1 := Lib.hid (HS0.out.next ((Below.refl _ _).alloc (Nat.le_refl _) (.cells #[.string ⟨#[97]⟩, .string ⟨#[98]⟩] 9)))
  have HL := Lib.hid (show w1.heap.size ≠ b by have := HS0.out.lt; omega)
  have HB1 := Lib.hid (HB0.out.alloc HB0.out.size (.cells #[.string ⟨#[97]⟩, .string ⟨#[98]⟩] 9))
  go_wp2_with fail
  generalize w1.alloc (.cells #[.string ⟨#[97]⟩, .string ⟨#[98]⟩] 9) = w2 at *
  generalize w1.heap.size = L at *
  clear HB0 HS0
  with_reducible refine (tick1 w2 b L HS1.out HQ0.out).mono ?_
  rintro e w3 ⟨v1, v2, rfl, r1, r2, s1, k1⟩
  obtain ⟨g1, cp1, rfl, hg1, hr1⟩ := one_ask r1
  obtain ⟨q1, cq1, rfl⟩ := no_strs r2
  have HQ1 := Lib.hid (HQ0.out.kept k1 HL.out)
  have HN1 := Lib.hid (show g1 ≠ b by have := HS1.out.lt; omega)
  have HS2 := Lib.hid s1
  have HR1 := Lib.hid hr1
  have HK1 := Lib.hid k1
  clear r1 r2 s1 k1 hg1 hr1 HS1 HQ0
  go_wp2_with fail
  with_reducible refine (tick2 w3 b L HS2.out HQ1.out).mono ?_
  rintro e w4 ⟨v1, v2, rfl, r1, r2, s1, k1⟩
  obtain ⟨g2, cp2, rfl, hg1, hr1⟩ := one_ask r1
  obtain ⟨q2, cq2, rfl⟩ := no_strs r2
  have HQ2 := Lib.hid (HQ1.out.kept k1 HL.out)
  have HN2 := Lib.hid (show g2 ≠ b by have := HS2.out.lt; omega)
  have HS3 := Lib.hid s1
  have HR2 := Lib.hid (HR1.out.kept k1 HN1.out)
  have HT2 := Lib.hid hr1
  have HK2 := Lib.hid (kthen HK1.out k1)
  clear r1 r2 s1 k1 hg1 hr1 HS2 HQ1 HR1 HK1
  go_wp2_with fail
  with_reducible refine (tick3 w4 b L HS3.out HQ2.out).mono ?_
  rintro e w5 ⟨v1, v2, rfl, r1, r2, s1, k1⟩
  obtain ⟨g3, cp3, rfl, hg1, hr1⟩ := one_ask r1
  obtain ⟨g4, cp4, rfl, hg4, hl4, hr4⟩ := one_str r2
  have HS4 := Lib.hid s1
  have HR3 := Lib.hid (HR2.out.kept k1 HN1.out)
  have HT3 := Lib.hid (HT2.out.kept k1 HN2.out)
  have HU3 := Lib.hid hr1
  have HV3 := Lib.hid hr4
  have HK3 := Lib.hid (kthen HK2.out k1)
  clear r1 r2 s1 k1 hg1 hr1 HS3 HQ2 HR2 HT2 HK2 hg4 hl4 hr4
  go_wp2_with fail
  with_reducible refine (got1 w5 b HS4.out).mono ?_
  rintro e w6 ⟨rfl, rfl⟩
  go_wp2_with fail
  with_reducible refine (Open_yes w5 b sA3 HS4.out rfl).mono ?_
  rintro e w6 ⟨he, n, rfl⟩
  have he2 : e = .returned (.tuple #[.string ⟨#[98]⟩, .int .u64 2, .bool true]) := he
  subst he2
  clear he
  have a0 : (w5.drewN n).cell? ⟨g1, 0, none⟩ = some (.string ⟨#[97]⟩) := HR3.out.2.1
  have a1 : (w5.drewN n).cell? ⟨g1, 1, none⟩ = some (.string ⟨#[]⟩) := HR3.out.2.2.1
  have a2 : (w5.drewN n).cell? ⟨g1, 2, none⟩ = some (.int .u64 1) := HR3.out.2.2.2
  have b0 : (w5.drewN n).cell? ⟨g2, 0, none⟩ = some (.string ⟨#[98]⟩) := HT3.out.2.1
  have b1 : (w5.drewN n).cell? ⟨g2, 1, none⟩ = some (.string ⟨#[97]⟩) := HT3.out.2.2.1
  have b2 : (w5.drewN n).cell? ⟨g2, 2, none⟩ = some (.int .u64 1) := HT3.out.2.2.2
  have d0 : (w5.drewN n).cell? ⟨g3, 0, none⟩ = some (.string ⟨#[98]⟩) := HU3.out.2.1
  have d1 : (w5.drewN n).cell? ⟨g4, 0, none⟩ = some (.string ⟨#[97]⟩) := HV3.out
  have HS5 := Lib.hid (HS4.out.drewN n)
  have HK5 := Lib.hid (kdrew HK3.out n)
  generalize w5.drewN n = w6 at *
  clear HS4 HK3 HR3 HT3 HU3 HV3
  go_wp2_with fail
  with_reducible refine (got2 w6 b HS5.out).mono ?_
  rintro e w7 ⟨rfl, s7, k7⟩
  have HK7 := Lib.hid (kthen HK5.out k7)
  clear s7 k7
  go_wp2
  go_ret
  refine ⟨rfl, HB1.out.trans (HK7.out.below ?_ ?_)⟩
  · rintro i rfl
    have := HBb.out
    omega
  · exact HB1.out.size
end Go.Proofs.Ytekjmkjghlbkbaa.Sw
