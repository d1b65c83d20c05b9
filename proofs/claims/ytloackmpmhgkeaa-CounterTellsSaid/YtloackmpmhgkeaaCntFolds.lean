/-
  Counters (layer 12): the walk of CounterFolds. No condition.
-/
import Derived.Test.YtloackmpmhgkeaaCntAlive
open Go Go.RowKit Go.Maps
namespace Go.Proofs.Ytloackmpmhgkeaa.Cnt
open Base Mp

theorem foldF_supp {f : Fn} {x k : Key} (h : foldF f x k ≠ (0, 0)) : f k ≠ (0, 0) ∨ k = [] := by
  by_cases hk : k = []
  · exact .inr hk
  · refine .inl fun e => h ?_
    unfold foldF
    rw [if_neg hk, e]
    split
    · rfl
    · split <;> rfl
theorem fold_valE {a l : List CntD} {x : Key} (ha : Oks a) (hl : Oks l) (h : fOf l = foldF (fOf a) x) : valE l = valE a := by
  obtain ⟨ks, hn, hc⟩ := nodup_cover (([] : Key) :: x :: a.map (·.by_))
  have h0 : ([] : Key) ∈ ks := (hc _).1 (by simp)
  have hx : x ∈ ks := (hc _).1 (by simp)
  have hs : ∀ k, fOf a k ≠ (0, 0) → k ∈ ks := fun k hk => (hc _).1 (List.mem_cons_of_mem _ (List.mem_cons_of_mem _ (fOf_mem a k hk)))
  unfold valE
  rw [sum_of h hl.str hn (fun k hk => (foldF_supp hk).elim (hs k) (fun e => e ▸ h0)), sum_of rfl ha.str hn hs]
  exact wrap_mod (fold_val x hn h0 hx)
theorem fold_gone {l : List CntD} {f : Fn} {x : Key} (h : Canon l (foldF f x)) (hx : ¬ x = []) (c : CntD) (hc : c ∈ l) : ¬ c.by_ = x := fun e => by
  obtain ⟨ks, _, _, rfl⟩ := h
  obtain ⟨_, h2, _⟩ := mem_norm.1 hc
  apply h2
  unfold foldF
  rw [if_neg hx, if_pos e]
theorem max_comm_f (a b : List CntD) : fOf (a ++ b) = fOf (b ++ a) := by
  funext k
  simp only [fOf, mxP_append, mxM_append, Nat.max_comm]
theorem fOf_append (a b : List CntD) (k : Key) : fOf (a ++ b) k = (max (fOf a k).1 (fOf b k).1, max (fOf a k).2 (fOf b k).2) := by
  simp only [fOf, mxP_append, mxM_append]
theorem fOf_append_congr {a a' b b' : List CntD} (h : fOf a = fOf a') (k : fOf b = fOf b') : fOf (a ++ b) = fOf (a' ++ b') := by
  funext x
  rw [fOf_append, fOf_append, h, k]
theorem idem_f (a b j : List CntD) (h : fOf j = fOf (a ++ b)) : fOf (j ++ a) = fOf (a ++ b) := by
  funext k
  rw [fOf_append, h, fOf_append, Prod.mk.injEq]
  simp only
  omega
theorem Gives.open {w w' : World} {v : Value} {f : Fn} {n : Nat} (h : Gives w w' v f n) : ∃ p cap l, v = .slice p l.length cap ∧ CntsArg w' p l ∧ Canon l f ∧ l.length ≤ n ∧ Below w.heap.size w w' := h
set_option maxHeartbeats 4000000 in
theorem CounterFolds_calls (w : World) (pa pb pc : Option Addr) (ca cb cc : Nat) (a b c : List CntD) (x y : Key) (ha : CntsArg w pa a) (hb : CntsArg w pb b) (hc : CntsArg w pc c) (hx : x.length ≤ maxLen) (hy : y.length ≤ maxLen) :
    Calls Try.prog 5 #[.slice pa a.length ca, .slice pb b.length cb, .slice pc c.length cc, .string (B x), .string (B y)] w fun e w' => e = .returned (.bool true) ∧ Below w.heap.size w w' := by
  have HA := Lib.hid ha
  have HB := Lib.hid hb
  have HC := Lib.hid hc
  have HX := Lib.hid hx
  have HY := Lib.hid hy
  clear ha hb hc hx hy
  by_cases la : 60 < (a.length : Int)
  · go_enter Try.func5, Try.ntmps5
    go_wp2_with (first
      | (go_at_call 7; with_reducible refine (Long_f _ _ _ _).mono ?_; rintro e w' ⟨rfl, rfl⟩)
      | (go_at_call 8; with_reducible refine (Alive_f _).mono ?_; rintro e w' ⟨rfl, hb⟩))
    go_ret
    exact ⟨rfl, by assumption⟩
  · by_cases lb : 60 < (b.length : Int)
    · go_enter Try.func5, Try.ntmps5
      go_wp2_with (first
        | (go_at_call 7; with_reducible refine (Long_f _ _ _ _).mono ?_; rintro e w' ⟨rfl, rfl⟩)
        | (go_at_call 8; with_reducible refine (Alive_f _).mono ?_; rintro e w' ⟨rfl, hb⟩))
      go_ret
      exact ⟨rfl, by assumption⟩
    · by_cases lc : 60 < (c.length : Int)
      · go_enter Try.func5, Try.ntmps5
        go_wp2_with (first
          | (go_at_call 7; with_reducible refine (Long_f _ _ _ _).mono ?_; rintro e w' ⟨rfl, rfl⟩)
          | (go_at_call 8; with_reducible refine (Alive_f _).mono ?_; rintro e w' ⟨rfl, hb⟩))
        go_ret
        exact ⟨rfl, by assumption⟩
      · have na : a.length ≤ 60 := by omega
        have nb : b.length ≤ 60 := by omega
        have nc : c.length ≤ 60 := by omega
        go_enter Try.func5, Try.ntmps5
        go_wp2_with (go_at_call 7; with_reducible refine (Long_f _ _ _ _).mono ?_; rintro e w' ⟨rfl, rfl⟩)
        with_reducible refine (Fold_f w pa ca a x HA.out (by omega) HX.out).mono ?_
        rintro e w1 ⟨v, rfl, hg⟩
        obtain ⟨p1, c1, l1, rfl, a1, n1, b1, o1⟩ := hg.open
        have HA1 := Lib.hid a1
        have HC1 := Lib.hid n1
        have HB1 := Lib.hid o1
        have hab := HA.out.below o1
        have HA0 := Lib.hid hab
        have hval : valE l1 = valE a := fold_valE HA.out.ok HA1.out.ok HC1.out.fn
        have HV := Lib.hid hval
        clear a1 n1 o1 hab hval
        go_wp2_with fail
        with_reducible refine (Value_f w1 p1 c1 l1 HA1.out (by omega)).mono ?_
        rintro e w2 ⟨rfl, h2⟩
        rw [HV.out]
        have HA1' := Lib.hid (HA1.out.below h2)
        have HA0' := Lib.hid (HA0.out.below h2)
        have HB2 := Lib.hid (later HB1.out h2)
        clear h2 HA1 HA0 HB1
        go_wp2_with fail
        with_reducible refine (Value_f w2 pa ca a HA0'.out (by omega)).mono ?_
        rintro e w3 ⟨rfl, h3⟩
        have HA1 := Lib.hid (HA1'.out.below h3)
        have HA0 := Lib.hid (HA0'.out.below h3)
        have HB3 := Lib.hid (later HB2.out h3)
        clear h3 HA1' HA0' HB2
        go_wp2_with fail
        with_reducible refine (Fold_f w3 p1 c1 l1 y HA1.out (by omega) HY.out).mono ?_
        rintro e w4 ⟨v, rfl, hg⟩
        obtain ⟨p2, c2, l2, rfl, a2, n2, b2, o2⟩ := hg.open
        have HA1' := Lib.hid (HA1.out.below o2)
        have HA0' := Lib.hid (HA0.out.below o2)
        have HA2 := Lib.hid a2
        have HB4 := Lib.hid (later HB3.out o2)
        have HC2 := Lib.hid n2
        clear a2 n2 o2 HA1 HA0 HB3
        go_wp2_with fail
        with_reducible refine (Fold_f w4 pa ca a y HA0'.out (by omega) HY.out).mono ?_
        rintro e w5 ⟨v, rfl, hg⟩
        obtain ⟨p3, c3, l3, rfl, a3, n3, b3, o3⟩ := hg.open
        have HA1 := Lib.hid (HA1'.out.below o3)
        have HA0 := Lib.hid (HA0'.out.below o3)
        have HA2' := Lib.hid (HA2.out.below o3)
        have HA3 := Lib.hid a3
        have HB5 := Lib.hid (later HB4.out o3)
        have HC3 := Lib.hid n3
        clear a3 n3 o3 HA1' HA0' HB4 HA2
        go_wp2_with fail
        with_reducible refine (Fold_f w5 p3 c3 l3 x HA3.out (by omega) HX.out).mono ?_
        rintro e w6 ⟨v, rfl, hg⟩
        obtain ⟨p4, c4, l4, rfl, a4, n4, b4, o4⟩ := hg.open
        have hl : l2 = l4 := HC2.out.unique (by rw [HC1.out.fn, foldF_comm, ← HC3.out.fn]; exact n4)
        subst hl
        have HA1' := Lib.hid (HA1.out.below o4)
        have HA0' := Lib.hid (HA0.out.below o4)
        have HA2 := Lib.hid (HA2'.out.below o4)
        have HA4 := Lib.hid a4
        have HB6 := Lib.hid (later HB5.out o4)
        clear a4 n4 o4 HA1 HA0 HB5 HA2' HA3 HC3
        go_wp2_with fail
        with_reducible refine (Same_yes w6 p2 p4 c2 c4 l2 HA2.out HA4.out (by omega)).mono ?_
        rintro e w7 ⟨rfl, n7, hw7⟩
        have HB7 := Lib.hid (show Below w.heap.size w w7 by rw [hw7]; exact HB6.out.drewN _)
        have HA1 := Lib.hid (show CntsArg w7 p1 l1 by rw [hw7]; exact HA1'.out.drewN _)
        have HA7 := Lib.hid (HA.out.below HB7.out)
        have HBB := Lib.hid (HB.out.below HB7.out)
        have HCC := Lib.hid (HC.out.below HB7.out)
        clear hw7 HA1' HA0' HA2 HA4 HB6 HC2
        go_wp2_with fail
        go_loop [12] (fun u => ∃ i : Nat, u = .int .i64 (i : Int) ∧ i ≤ l1.length) (fun u => l1.length - (intOf u).toNat)
        case atStart => exact ⟨0, rfl, Nat.zero_le _⟩
        case round =>
          obtain ⟨i, rfl, hi⟩ := hrel
          by_cases hlt : i < l1.length
          · obtain ⟨bb, oo, rfl, ⟨d0, -, -⟩, -⟩ := HA1.out i hlt
            have HG := Lib.hid (fun hx0 => fold_gone HC1.out hx0 l1[i] (List.getElem_mem hlt))
            have HLT := Lib.hid hlt
            generalize hd : (l1[i]).by_ = d at *
            clear hd
            by_cases hx0 : x = []
            · have t1 : x.isEmpty = true := by rw [hx0]; rfl
              by_cases hdx : d = x
              · have t3 : (d == x) = true := by simpa using hdx
                have HX0 := Lib.hid hx0
                clear hx0 hdx
                go_wp2
                go_round
                case rel => exact ⟨i + 1, by go_num, HLT.out⟩
                case measure => have := HLT.out; simp [intOf]; omega
              · have t3 : (d == x) = false := by simpa using hdx
                clear hx0 hdx
                go_wp2
                go_round
                case rel => exact ⟨i + 1, by go_num, HLT.out⟩
                case measure => have := HLT.out; simp [intOf]; omega
            · have t3 : (d == x) = false := by simpa using HG.out hx0
              clear hx0
              go_wp2
              go_round
              case rel => exact ⟨i + 1, by go_num, HLT.out⟩
              case measure => have := HLT.out; simp [intOf]; omega
          · obtain rfl : i = l1.length := by omega
            clear hlt HA1
            go_wp2_with fail
            with_reducible refine (Join_f w7 pa pb ca cb a b HA7.out HBB.out (by omega)).mono ?_
            rintro e w8 ⟨v, rfl, hg⟩
            obtain ⟨p8, c8, l8, rfl, a8, n8, b8, o8⟩ := hg.open
            have HJ := Lib.hid n8
            have HJA := Lib.hid a8
            have HA8 := Lib.hid (HA7.out.below o8)
            have HBB8 := Lib.hid (HBB.out.below o8)
            have HCC8 := Lib.hid (HCC.out.below o8)
            have HB8 := Lib.hid (later HB7.out o8)
            clear n8 a8 o8 HA7 HBB HCC HB7
            go_wp2_with fail
            with_reducible refine (Join_f w8 pb pa cb ca b a HBB8.out HA8.out (by omega)).mono ?_
            rintro e w9 ⟨v, rfl, hg⟩
            obtain ⟨p9, c9, l9, rfl, a9, n9, b9, o9⟩ := hg.open
            have hl : l8 = l9 := HJ.out.unique (by rw [max_comm_f]; exact n9)
            subst hl
            have HJA9 := Lib.hid (HJA.out.below o9)
            have HA9 := Lib.hid (HA8.out.below o9)
            have HBB9 := Lib.hid (HBB8.out.below o9)
            have HCC9 := Lib.hid (HCC8.out.below o9)
            have HB9 := Lib.hid (later HB8.out o9)
            have H9 := Lib.hid a9
            clear n9 a9 o9 HA8 HBB8 HCC8 HB8 HJA
            go_wp2_with fail
            with_reducible refine (Same_yes w9 p8 p9 c8 c9 l8 HJA9.out H9.out (by omega)).mono ?_
            rintro e w10 ⟨rfl, n10, hw⟩
            have hb10 : Below w9.heap.size w9 w10 := by rw [hw]; exact (Below.refl _ _).drewN _
            have HJA := Lib.hid (HJA9.out.below hb10)
            have HA10 := Lib.hid (HA9.out.below hb10)
            have HBB10 := Lib.hid (HBB9.out.below hb10)
            have HCC10 := Lib.hid (HCC9.out.below hb10)
            have HB10 := Lib.hid (later HB9.out hb10)
            clear hw hb10 HJA9 HA9 HBB9 HCC9 HB9 H9
            go_wp2_with fail
            with_reducible refine (Join_f w10 p8 pc c8 cc l8 c HJA.out HCC10.out (by omega)).mono ?_
            rintro e w11 ⟨v, rfl, hg⟩
            obtain ⟨p11, c11, l11, rfl, a11, n11, b11, o11⟩ := hg.open
            have HJA11 := Lib.hid (HJA.out.below o11)
            have HA11 := Lib.hid (HA10.out.below o11)
            have HBB11 := Lib.hid (HBB10.out.below o11)
            have HCC11 := Lib.hid (HCC10.out.below o11)
            have HB11 := Lib.hid (later HB10.out o11)
            have HL11 := Lib.hid a11
            have HC11 := Lib.hid n11
            clear n11 a11 o11 HJA HA10 HBB10 HCC10 HB10
            go_wp2_with fail
            with_reducible refine (Join_f w11 pb pc cb cc b c HBB11.out HCC11.out (by omega)).mono ?_
            rintro e w12 ⟨v, rfl, hg⟩
            obtain ⟨p12, c12, l12, rfl, a12, n12, b12, o12⟩ := hg.open
            have HJA := Lib.hid (HJA11.out.below o12)
            have HA12 := Lib.hid (HA11.out.below o12)
            have HL11' := Lib.hid (HL11.out.below o12)
            have HB12 := Lib.hid (later HB11.out o12)
            have HL12 := Lib.hid a12
            have HC12 := Lib.hid n12
            clear n12 a12 o12 HJA11 HA11 HBB11 HCC11 HB11 HL11
            go_wp2_with fail
            with_reducible refine (Join_f w12 pa p12 ca c12 a l12 HA12.out HL12.out (by omega)).mono ?_
            rintro e w13 ⟨v, rfl, hg⟩
            obtain ⟨p13, c13, l13, rfl, a13, n13, b13, o13⟩ := hg.open
            have hl : l11 = l13 := HC11.out.unique (by
              rw [fOf_append_congr HJ.out.fn (rfl : fOf c = fOf c), List.append_assoc, ← fOf_append_congr (rfl : fOf a = fOf a) HC12.out.fn]
              exact n13)
            subst hl
            have HJA13 := Lib.hid (HJA.out.below o13)
            have HA13 := Lib.hid (HA12.out.below o13)
            have HL11 := Lib.hid (HL11'.out.below o13)
            have HB13 := Lib.hid (later HB12.out o13)
            have HL13 := Lib.hid a13
            clear n13 a13 o13 HJA HA12 HL11' HB12 HL12
            go_wp2_with fail
            with_reducible refine (Same_yes w13 p11 p13 c11 c13 l11 HL11.out HL13.out (by omega)).mono ?_
            rintro e w14 ⟨rfl, n14, hw⟩
            have hb14 : Below w13.heap.size w13 w14 := by rw [hw]; exact (Below.refl _ _).drewN _
            have HJA := Lib.hid (HJA13.out.below hb14)
            have HA14 := Lib.hid (HA13.out.below hb14)
            have HB14 := Lib.hid (later HB13.out hb14)
            clear hw hb14 HJA13 HA13 HB13 HL11 HL13
            go_wp2_with fail
            with_reducible refine (Join_f w14 p8 pa c8 ca l8 a HJA.out HA14.out (by omega)).mono ?_
            rintro e w15 ⟨v, rfl, hg⟩
            obtain ⟨p15, c15, l15, rfl, a15, n15, b15, o15⟩ := hg.open
            have hl : l8 = l15 := HJ.out.unique (by rw [← idem_f a b l8 HJ.out.fn]; exact n15)
            subst hl
            have HJA15 := Lib.hid (HJA.out.below o15)
            have HB15 := Lib.hid (later HB14.out o15)
            have HL15 := Lib.hid a15
            clear n15 a15 o15 HJA HA14 HB14
            go_wp2_with fail
            with_reducible refine (Same_yes w15 p15 p8 c15 c8 l8 HL15.out HJA15.out (by omega)).mono ?_
            rintro e w16 ⟨rfl, n16, hw⟩
            have hb16 : Below w15.heap.size w15 w16 := by rw [hw]; exact (Below.refl _ _).drewN _
            have HB16 := Lib.hid (later HB15.out hb16)
            clear hw hb16 HJA15 HB15 HL15
            go_wp2_with fail
            with_reducible refine (Alive_f w16).mono ?_
            rintro e w17 ⟨rfl, hb17⟩
            have HB17 := Lib.hid (later HB16.out hb17)
            clear hb17
            go_wp2
            go_ret
            exact ⟨rfl, HB17.out⟩
end Go.Proofs.Ytloackmpmhgkeaa.Cnt
