/-
  FrameScans: the call returns true, whatever the texts and the place; under the sum's table.
-/
import Derived.Test.YtjhdjeneblgknaaDoorFrameShort
open Go Go.RowKit
namespace Go.Proofs.YtjhdjeneblgknaaDoor.Frame
open Base Crc

def bytesOf (l : List (List UInt8)) : Nat := (l.map List.length).sum
theorem bytesOf_snoc (l : List (List UInt8)) (t : List UInt8) : bytesOf (l ++ [t]) = bytesOf l + t.length := by simp [bytesOf]
theorem bytesOf_weigh (l : List (List UInt8)) : weigh l = bytesOf l + l.length := by
  induction l with
  | nil => simp [weigh, bytesOf]
  | cons x l ih =>
    have e : weigh (x :: l) = (1 + x.length) + weigh l := by simp [weigh]
    have e2 : bytesOf (x :: l) = x.length + bytesOf l := by simp [bytesOf]
    rw [e, e2, ih, List.length_cons]; omega
theorem puts_bytes (l : List (List UInt8)) : (puts l).length = bytesOf l + 8 * l.length := by
  induction l with
  | nil => simp [puts, bytesOf]
  | cons x l ih =>
    have e2 : bytesOf (x :: l) = x.length + bytesOf l := by simp [bytesOf]
    rw [puts_cons, List.length_append, put_length, e2, ih, List.length_cons]; omega
/-- Where each frame ends. -/
def endAt (l : List (List UInt8)) (k : Nat) : Nat := (puts (l.take k)).length
def endsOf (l : List (List UInt8)) (k : Nat) : List Value := (List.range k).map fun j => Value.int .i64 (endAt l (j + 1) : Nat)
theorem endsOf_succ (l : List (List UInt8)) (k : Nat) : endsOf l (k + 1) = endsOf l k ++ [.int .i64 (endAt l (k + 1) : Nat)] := by simp [endsOf, List.range_succ]
theorem endsOf_length (l : List (List UInt8)) (k : Nat) : (endsOf l k).length = k := by simp [endsOf]
theorem endsOf_at (l : List (List UInt8)) (k j : Nat) (h : j < k) : (endsOf l k)[j]'(by rw [endsOf_length]; exact h) = .int .i64 (endAt l (j + 1) : Nat) := by simp [endsOf]
theorem endAt_mono (l : List (List UInt8)) (i j : Nat) (h : i ≤ j) : endAt l i ≤ endAt l j := by
  have := puts_take_le (l.take j) i
  rw [List.take_take, Nat.min_eq_left h] at this
  exact this
theorem endAt_next (l : List (List UInt8)) (m : Nat) (t : List UInt8) (h : l[m]? = some t) : endAt l (m + 1) = endAt l m + (put t).length := by
  obtain ⟨hm, e⟩ := List.getElem?_eq_some_iff.1 h
  unfold endAt
  rw [take_next l m hm, puts_snoc, List.length_append, e]
theorem strs_take (l : List (List UInt8)) (m : Nat) : strs (l.take m) = (strs l).take m := by simp [strs]
theorem infoI : (Tryd.prog.info? 3).map (fun i => (i.zero, i.size, i.bytes)) = some (some (.int .i64 0), 1, 8) := by kernel_rfl

set_option maxRecDepth 100000 in
set_option maxHeartbeats 2000000 in
theorem Scans_calls (p : Option Addr) (l : List (List UInt8)) (c at_ : Nat) (w : World) (hl : l.length ≤ maxLen) (hcap : l.length ≤ c) (hr : RowArg w p (strs l)) (hz : ∀ t ∈ l, t.length ≤ 140737488351232) (hT : TabOk w) (hat : at_ < 65536) :
    Calls Tryd.prog 6 #[.slice p l.length c, .int .u16 at_] w fun e w' => e = .returned (.bool true) ∧ Below w.heap.size w w' := by
  have HT := Lib.hid hT
  have HR := Lib.hid hr
  have HZ := Lib.hid hz
  clear hT hr hz
  unfold maxLen at hl
  obtain ⟨i0, hi, hz0, hz1, hz2⟩ := info_parts infoI
  go_enter Tryd.func6, Tryd.ntmps6
  go_wp2
  go_loop [5, 6] (fun n i => ∃ k : Nat, k ≤ l.length ∧ k ≤ 300 ∧ i = .int .i64 k ∧ n = .int .i64 (bytesOf (l.take k) : Nat)) (fun _ i => l.length - (intOf i).toNat)
  case atStart => exact ⟨0, Nat.zero_le _, by omega, rfl, by simp [bytesOf]⟩
  case round =>
    obtain ⟨k, hk, hk2, rfl, rfl⟩ := hrel
    have hwb : bytesOf (l.take k) ≤ 42221246505369900 := by
      have := weigh_bound (l.take k) (fun t ht => HZ.out t (List.mem_of_mem_take ht))
      have h2 : (l.take k).length ≤ 300 := Nat.le_trans (List.length_take_le _ _) hk2
      have h3 := Nat.mul_le_mul_right 140737488351233 h2
      rw [bytesOf_weigh] at this
      omega
    by_cases hlt : k < l.length ∧ k < 300
    · obtain ⟨hlt, hlt2⟩ := hlt
      obtain ⟨b1, o1, rfl, _, hc1⟩ := HR.out k (by rw [strs_length]; exact hlt)
      rw [strs_at _ _ hlt] at hc1
      have hzt := HZ.out l[k] (List.getElem_mem hlt)
      have hn : bytesOf (l.take (k + 1)) = bytesOf (l.take k) + l[k].length := by rw [take_next _ _ hlt, bytesOf_snoc]
      have HN := Lib.hid hn
      clear hn
      generalize l[k] = t at *
      generalize bytesOf (l.take k) = wk at *
      go_wp2
      go_round
      case rel => exact ⟨k + 1, by omega, by omega, by go_num, by rw [HN.out]; go_num⟩
      case measure => simp [intOf]; omega
    · by_cases h30 : 200 < l.length
      · have hd : decide ((200 : Int) < (l.length : Int)) = true := by simp; omega
        generalize bytesOf (l.take k) = wk at *
        by_cases hk3 : k < l.length
        · have hk4 : ¬ k < 300 := fun h => hlt ⟨hk3, h⟩
          clear hlt
          go_wp2_with (go_at_call 8; refine (works_calls _ HT.out).mono ?_; rintro e w4 ⟨rfl, hb4⟩)
          go_ret
          exact ⟨rfl, hb4⟩
        · clear hlt
          go_wp2_with (go_at_call 8; refine (works_calls _ HT.out).mono ?_; rintro e w4 ⟨rfl, hb4⟩)
          go_ret
          exact ⟨rfl, hb4⟩
      · have hkl : k = l.length := by omega
        have htk : l.take k = l := by rw [hkl]; exact List.take_length
        rw [htk] at hwb ⊢
        have hd : decide ((200 : Int) < (l.length : Int)) = false := by simp; omega
        have hnk : ¬ k < l.length := by omega
        clear hlt htk hkl hk hk2
        by_cases h5 : 4096 < bytesOf l
        · generalize bytesOf l = wl at *
          go_wp2_with (go_at_call 8; refine (works_calls _ HT.out).mono ?_; rintro e w4 ⟨rfl, hb4⟩)
          go_ret
          exact ⟨rfl, hb4⟩
        · have hpl : (puts l).length ≤ 5696 := by rw [puts_bytes]; omega
          have HPT := Lib.hid (puts_take_le l)
          have HWA := Lib.hid (fun t ht => Nat.le_trans (weigh_at l t ht) (by rw [bytesOf_weigh]; omega : weigh l ≤ 4296))
          generalize bytesOf l = wl at *
          have hle : ∀ k, (puts (l.take k)).length ≤ 5696 := fun k => Nat.le_trans (HPT.out k) hpl
          have HLE := Lib.hid hle
          clear hle
          go_wp2
          clear hwb hnk
          go_loopw [7, 8, 9] (fun a v i wr => ∃ k : Nat, k ≤ l.length ∧ i = .int .i64 k ∧ a = .string (B (puts (l.take k))) ∧ wr.ownsRow w.heap.size 3 1 v k (endsOf l k) ∧ Below w.heap.size w wr) (fun _ _ i _ => l.length - (intOf i).toNat)
          case atStart => exact ⟨0, Nat.zero_le _, rfl, rfl, World.ownsRow_nil _ _ _ _, Below.refl _ _⟩
          case round =>
            obtain ⟨k, hk, rfl, rfl, hown, hb⟩ := hrel
            have HB := Lib.hid hb
            have HTr := Lib.hid (HT.out.next hb)
            have HO := Lib.hid hown
            clear hb hown
            have hle := HLE.out k
            by_cases hlt : k < l.length
            · obtain ⟨b1, o1, rfl, hlt1, hc1⟩ := HR.out k (by rw [strs_length]; exact hlt)
              rw [strs_at _ _ hlt] at hc1
              have hc2 := (HB.out.cell (p := ⟨b1, o1 + k, none⟩) hlt1).trans hc1
              have htl := HWA.out _ (List.getElem_mem hlt)
              have hn : puts (l.take (k + 1)) = puts (l.take k) ++ put l[k] := by rw [take_next _ _ hlt, puts_snoc]
              have hle2 := HLE.out (k + 1)
              rw [hn, List.length_append] at hle2
              have he : endAt l (k + 1) = (puts (l.take k)).length + (put l[k]).length := by unfold endAt; rw [hn, List.length_append]
              have HN := Lib.hid hn
              have HE := Lib.hid he
              clear hn hc1 he
              generalize l[k] = t at *
              generalize puts (l.take k) = a at *
              go_wp2_with fail
              refine (Put_calls t wr (by omega) HTr.out).mono ?_
              rintro e w1 ⟨rfl, hb1⟩
              have hown : w1.ownsRow w.heap.size 3 1 u8 k (endsOf l k) := own_next HO.out hb1
              have hsz : w.heap.size ≤ w1.heap.size := Nat.le_trans HB.out.size hb1.size
              have HB1 := Lib.hid (later HB.out hb1)
              clear hc2 hb1
              generalize put t = pt at *
              go_wp2_with (at_builtin; refine wpList_append_own _ rfl _ _ 41 rfl w.heap.size 3 i0 (.int .i64 0) 1 8 Tryd.underlying41 hi hz0 hz1 hz2 rfl (by decide) _ _ _ rfl (hown.alloc _) ⟨w1.heap.size, 0, none⟩ 1 1 [.int .i64 ((a.length : Int) + (pt.length : Int))] rfl rfl ?c1 ?c2 ?c3 ?c4 ?c5 ?_)
              case c1 => exact cell_one_new _ _ _
              case c2 => simp [Value.oneCell']
              case c3 => unfold maxLen; omega
              case c4 => omega
              case c5 => simp; omega
              intro v' w2 hown2 hg2 _
              have HO2 := Lib.hid hown2
              have HB2 := Lib.hid ((HB1.out.alloc hsz _).grown hg2 (by simp; omega) (fun q hq => (hown.lt q hq).1))
              clear hown2 hg2 hown
              go_wp2
              go_roundw
              case rel => exact ⟨k + 1, by omega, by go_num, by rw [HN.out], by rw [endsOf_succ, HE.out]; simpa using HO2.out, HB2.out⟩
              case measure => simp [intOf]; omega
            · have hkl : k = l.length := by omega
              subst hkl
              have htk : l.take l.length = l := List.take_length
              rw [htk] at hle ⊢
              have HSC := Lib.hid (scanAll_puts l (fun t ht => by have := HWA.out t ht; omega))
              have HTK := Lib.hid (scanAll_take l (fun t ht => by have := HWA.out t ht; omega))
              obtain ⟨pe, ce, rfl, hre, hrl, hrm⟩ := RowArg.of_own HO.out
              have HRE := Lib.hid hre
              clear htk hre hrl
              generalize puts l = a at *
              go_wp2_with fail
              refine (Scan_calls a wr (by omega) HTr.out).mono ?_
              rintro e w2 ⟨v2, rfl, ho2, hb2⟩
              obtain ⟨p2, c2, rfl, hr2, _, _⟩ := RowArg.of_own ho2
              rw [HSC.out] at hr2 ⊢
              have HB2 := Lib.hid (later HB.out hb2)
              have HT2 := Lib.hid (HT.out.next HB2.out)
              have HR2 := Lib.hid hr2
              have HRE2 := Lib.hid (HRE.out.below hb2)
              clear ho2 hb2 hr2
              go_wp2_with fail
              refine (same_calls p2 p l l c2 c w2 (by unfold maxLen; omega) (by unfold maxLen; omega) HR2.out (HR.out.below HB2.out)).mono ?_
              rintro e w3 ⟨rfl, hw3⟩
              have HB3 := Lib.hid (later HB2.out (drawn_below hw3))
              have HT3 := Lib.hid (HT.out.next HB3.out)
              have HRE3 := Lib.hid (HRE2.out.below (drawn_below hw3))
              clear hw3
              obtain ⟨q, hq, hqn⟩ : ∃ q : Nat, (at_ : Int) % ((a.length : Int) + 1) = (q : Int) ∧ q ≤ a.length := ⟨at_ % (a.length + 1), by simp, by have := Nat.mod_lt at_ (show 0 < a.length + 1 by omega); omega⟩
              go_wp2_with fail
              rw [hq]
              clear hq
              have hqlen : (a.take q).length = q := by rw [List.length_take]; omega
              obtain ⟨m, ee, hm, hmk, hnext, he0, hee, hsc⟩ := HTK.out q hqn
              have hem : (puts (l.take m)).length = endAt l m := rfl
              rw [hem] at hmk hnext he0 hsc
              have HNX := Lib.hid hnext
              have HE0 := Lib.hid he0
              refine (Scan_calls (a.take q) w3 (by omega) HT3.out).mono ?_
              rintro e w4 ⟨v4, rfl, ho4, hb4⟩
              obtain ⟨p4, c4, rfl, hr4, _, _⟩ := RowArg.of_own ho4
              rw [hsc] at hr4 ⊢
              have hml : (l.take m).length = m := by rw [List.length_take]; omega
              have hup : ((a.take q).length : Int) - ((List.drop (endAt l m) (a.take q)).length : Nat) = (endAt l m : Nat) := by rw [List.length_drop, hqlen]; omega
              rw [hup, hml]
              have HB4 := Lib.hid (later HB3.out hb4)
              have HT4 := Lib.hid (HT.out.next HB4.out)
              have HR4 := Lib.hid hr4
              have HRE4 := Lib.hid (HRE3.out.below hb4)
              clear ho4 hb4 hr4 hsc hup hnext he0 hem hqlen
              go_wp2
              have h00 : endAt l 0 = 0 := by simp [endAt, puts]
              go_loop [19, 20, 21] (fun x y i => ∃ j : Nat, j ≤ m ∧ x = .int .i64 j ∧ y = .int .i64 (endAt l j : Nat) ∧ i = .int .i64 j) (fun _ _ i => m - (intOf i).toNat)
              case atStart => exact ⟨0, Nat.zero_le _, rfl, by rw [h00]; rfl, rfl⟩
              case round =>
                clear h00
                obtain ⟨j, hj, rfl, rfl, rfl⟩ := hrel
                by_cases hjm : j < m
                · obtain ⟨be, oe, rfl, _, hce⟩ := HRE4.out j (by rw [endsOf_length]; omega)
                  rw [endsOf_at _ _ _ (by omega)] at hce
                  have hmo := endAt_mono l (j + 1) m (by omega)
                  have hjl : j < l.length := by omega
                  generalize hej : endAt l (j + 1) = ej at *
                  have HEJ := Lib.hid hej
                  clear hej
                  go_wp2
                  go_round
                  case rel => exact ⟨j + 1, by omega, by go_num, by rw [HEJ.out], by go_num⟩
                  case measure => simp [intOf]; omega
                · have hjm2 : j = m := by omega
                  subst hjm2
                  have hjc : j ≤ c := by omega
                  have hml2 : (l.take j).length = j := by rw [List.length_take]; omega
                  have hs := same_calls p4 p (l.take j) (l.take j) c4 c w4 (by unfold maxLen; omega) (by unfold maxLen; omega) HR4.out (by rw [strs_take]; exact (HR.out.below HB4.out).take j)
                  rw [hml2] at hs
                  have HS := Lib.hid hs
                  clear hs
                  by_cases hjl : j < l.length
                  · obtain ⟨be, oe, rfl, _, hce⟩ := HRE4.out j (by rw [endsOf_length]; omega)
                    rw [endsOf_at _ _ _ (by omega)] at hce
                    have hgt : q < endAt l (j + 1) := by
                      rcases HNX.out with h | ⟨t, h1, h2⟩
                      · omega
                      · rw [endAt_next l j t h1]; exact h2
                    clear hml2
                    generalize endAt l (j + 1) = ej at *
                    generalize endAt l j = em at *
                    rcases hee with hee | hee
                    · subst hee
                      have hqe := HE0.out.1 rfl
                      subst hqe
                      go_wp2_with fail
                      refine HS.out.mono ?_
                      rintro e w5 ⟨rfl, hw5⟩
                      have HB5 := Lib.hid (later HB4.out (drawn_below hw5))
                      have HT5 := Lib.hid (HT.out.next HB5.out)
                      clear hw5
                      go_wp2_with (go_at_call 8; refine (works_calls _ HT5.out).mono ?_; rintro e w6 ⟨rfl, hb6⟩)
                      go_ret
                      exact ⟨rfl, later HB5.out hb6⟩
                    · subst hee
                      have hqe : ((em : Int) == (q : Int)) = false := beq_eq_false_iff_ne.2 (fun h => by have := HE0.out.2 (by omega); omega)
                      go_wp2_with fail
                      refine HS.out.mono ?_
                      rintro e w5 ⟨rfl, hw5⟩
                      have HB5 := Lib.hid (later HB4.out (drawn_below hw5))
                      have HT5 := Lib.hid (HT.out.next HB5.out)
                      clear hw5
                      go_wp2_with (go_at_call 8; refine (works_calls _ HT5.out).mono ?_; rintro e w6 ⟨rfl, hb6⟩)
                      go_ret
                      exact ⟨rfl, later HB5.out hb6⟩
                  · clear hml2
                    generalize endAt l j = em at *
                    rcases hee with hee | hee
                    · subst hee
                      have hqe := HE0.out.1 rfl
                      subst hqe
                      go_wp2_with fail
                      refine HS.out.mono ?_
                      rintro e w5 ⟨rfl, hw5⟩
                      have HB5 := Lib.hid (later HB4.out (drawn_below hw5))
                      have HT5 := Lib.hid (HT.out.next HB5.out)
                      clear hw5
                      go_wp2_with (go_at_call 8; refine (works_calls _ HT5.out).mono ?_; rintro e w6 ⟨rfl, hb6⟩)
                      go_ret
                      exact ⟨rfl, later HB5.out hb6⟩
                    · subst hee
                      have hqe : ((em : Int) == (q : Int)) = false := beq_eq_false_iff_ne.2 (fun h => by have := HE0.out.2 (by omega); omega)
                      go_wp2_with fail
                      refine HS.out.mono ?_
                      rintro e w5 ⟨rfl, hw5⟩
                      have HB5 := Lib.hid (later HB4.out (drawn_below hw5))
                      have HT5 := Lib.hid (HT.out.next HB5.out)
                      clear hw5
                      go_wp2_with (go_at_call 8; refine (works_calls _ HT5.out).mono ?_; rintro e w6 ⟨rfl, hb6⟩)
                      go_ret
                      exact ⟨rfl, later HB5.out hb6⟩
end Go.Proofs.YtjhdjeneblgknaaDoor.Frame
