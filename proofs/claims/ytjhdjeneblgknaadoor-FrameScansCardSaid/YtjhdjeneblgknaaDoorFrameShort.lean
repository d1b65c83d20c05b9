/-
  FrameShort: the call returns true, whatever the texts; under the sum's table.
-/
import Derived.Test.YtjhdjeneblgknaaDoorFrameLaws
open Go Go.RowKit
namespace Go.Proofs.YtjhdjeneblgknaaDoor.Frame
open Base Crc

def weigh (l : List (List UInt8)) : Nat := (l.map fun t => 1 + t.length).sum
theorem weigh_snoc (l : List (List UInt8)) (t : List UInt8) : weigh (l ++ [t]) = weigh l + (1 + t.length) := by simp [weigh]
theorem weigh_bound (l : List (List UInt8)) (h : ∀ t ∈ l, t.length ≤ 140737488351232) : weigh l ≤ l.length * 140737488351233 := by
  induction l with
  | nil => simp [weigh]
  | cons t l ih =>
    have h1 := ih (fun x hx => h x (by simp [hx]))
    have h2 := h t (by simp)
    have e : weigh (t :: l) = (1 + t.length) + weigh l := by simp [weigh]
    rw [e, List.length_cons, Nat.add_mul]; omega
theorem weigh_at (l : List (List UInt8)) (t : List UInt8) (h : t ∈ l) : t.length ≤ weigh l := by
  induction l with
  | nil => simp at h
  | cons x l ih =>
    have e : weigh (x :: l) = (1 + x.length) + weigh l := by simp [weigh]
    rcases List.mem_cons.1 h with h | h
    · subst h; omega
    · have := ih h; omega
theorem puts_weigh (l : List (List UInt8)) : (puts l).length ≤ 8 * weigh l := by
  induction l with
  | nil => simp [puts]
  | cons x l ih =>
    have e : weigh (x :: l) = (1 + x.length) + weigh l := by simp [weigh]
    rw [puts_cons, List.length_append, put_length, e]; omega
theorem weigh_take (l : List (List UInt8)) (k : Nat) : weigh (l.take k) ≤ weigh l := by
  have e : weigh l = weigh (l.take k) + weigh (l.drop k) := by
    have h := congrArg weigh (List.take_append_drop k l).symm
    rw [h]
    simp only [weigh, List.map_append, List.sum_append]
  omega
theorem puts_take_le (l : List (List UInt8)) (k : Nat) : (puts (l.take k)).length ≤ (puts l).length := by
  have e : puts l = puts (l.take k) ++ puts (l.drop k) := by
    have h := congrArg puts (List.take_append_drop k l).symm
    rw [h]
    simp only [puts, List.map_append, List.flatten_append]
  rw [e, List.length_append]; omega
theorem take_next (l : List (List UInt8)) (k : Nat) (h : k < l.length) : l.take (k + 1) = l.take k ++ [l[k]] := List.take_succ_eq_append_getElem h

set_option maxRecDepth 100000 in
set_option maxHeartbeats 1000000 in
theorem Short_calls (p : Option Addr) (l : List (List UInt8)) (c : Nat) (w : World) (hl : l.length ≤ maxLen) (hr : RowArg w p (strs l)) (hz : ∀ t ∈ l, t.length ≤ 140737488351232) (hT : TabOk w) :
    Calls Tryd.prog 7 #[.slice p l.length c] w fun e w' => e = .returned (.bool true) ∧ Below w.heap.size w w' := by
  have HT := Lib.hid hT
  have HR := Lib.hid hr
  have HZ := Lib.hid hz
  clear hT hr hz
  unfold maxLen at hl
  go_enter Tryd.func7, Tryd.ntmps7
  go_wp2
  go_loop [3, 4] (fun n i => ∃ k : Nat, k ≤ l.length ∧ k ≤ 100 ∧ i = .int .i64 k ∧ n = .int .i64 (weigh (l.take k) : Nat)) (fun _ i => l.length - (intOf i).toNat)
  case atStart => exact ⟨0, Nat.zero_le _, by omega, rfl, by simp [weigh]⟩
  case round =>
    obtain ⟨k, hk, hk2, rfl, rfl⟩ := hrel
    have hwb : weigh (l.take k) ≤ 14073748835123300 := by
      have := weigh_bound (l.take k) (fun t ht => HZ.out t (List.mem_of_mem_take ht))
      have h2 : (l.take k).length ≤ 100 := Nat.le_trans (List.length_take_le _ _) hk2
      have h3 := Nat.mul_le_mul_right 140737488351233 h2
      omega
    by_cases hlt : k < l.length ∧ k < 100
    · obtain ⟨hlt, hlt2⟩ := hlt
      obtain ⟨b1, o1, rfl, _, hc1⟩ := HR.out k (by rw [strs_length]; exact hlt)
      rw [strs_at _ _ hlt] at hc1
      have hzt := HZ.out l[k] (List.getElem_mem hlt)
      have hn : weigh (l.take (k + 1)) = weigh (l.take k) + (1 + l[k].length) := by rw [take_next _ _ hlt, weigh_snoc]
      have HN := Lib.hid hn
      clear hn
      generalize l[k] = t at *
      generalize weigh (l.take k) = wk at *
      go_wp2
      go_round
      case rel => exact ⟨k + 1, by omega, by omega, by go_num, by rw [HN.out]; go_num⟩
      case measure => simp [intOf]; omega
    · by_cases h30 : 30 < l.length
      · have hd : decide ((30 : Int) < (l.length : Int)) = true := by simp; omega
        generalize weigh (l.take k) = wk at *
        by_cases hk3 : k < l.length
        · have hk4 : ¬ k < 100 := fun h => hlt ⟨hk3, h⟩
          clear hlt
          go_wp2_with (go_at_call 8; refine (works_calls _ HT.out).mono ?_; rintro e w4 ⟨rfl, hb4⟩)
          go_ret
          exact ⟨rfl, hb4⟩
        · clear hlt
          go_wp2_with (go_at_call 8; refine (works_calls _ HT.out).mono ?_; rintro e w4 ⟨rfl, hb4⟩)
          go_ret
          exact ⟨rfl, hb4⟩
      · have hkl : k = l.length := by omega
        have htk : l.take k = l := by rw [hkl]; exact List.take_length
        rw [htk] at hwb ⊢
        have hd : decide ((30 : Int) < (l.length : Int)) = false := by simp; omega
        have hnk : ¬ k < l.length := by omega
        clear hlt htk hkl hk hk2
        by_cases h5 : 512 < weigh l
        · generalize weigh l = wl at *
          go_wp2_with (go_at_call 8; refine (works_calls _ HT.out).mono ?_; rintro e w4 ⟨rfl, hb4⟩)
          go_ret
          exact ⟨rfl, hb4⟩
        · have hpw := puts_weigh l
          have HPT := Lib.hid (puts_take_le l)
          have HWA := Lib.hid (weigh_at l)
          have hpl : (puts l).length ≤ 4096 := by omega
          clear hpw
          generalize weigh l = wl at *
          have hle : ∀ k, (puts (l.take k)).length ≤ 4096 := fun k => Nat.le_trans (HPT.out k) hpl
          have HLE := Lib.hid hle
          clear hle
          go_wp2
          clear hwb hnk
          go_loopw [5, 6, 7] (fun a n i wr => ∃ k : Nat, k ≤ l.length ∧ i = .int .i64 k ∧ a = .string (B (puts (l.take k))) ∧ n = .int .i64 ((puts (l.take k)).length : Nat) ∧ Below w.heap.size w wr) (fun _ _ i _ => l.length - (intOf i).toNat)
          case atStart => exact ⟨0, Nat.zero_le _, rfl, rfl, rfl, Below.refl _ _⟩
          case round =>
            obtain ⟨k, hk, rfl, rfl, rfl, hb⟩ := hrel
            have HB := Lib.hid hb
            have HTr := Lib.hid (HT.out.next hb)
            clear hb
            have hle := HLE.out k
            by_cases hlt : k < l.length
            · obtain ⟨b1, o1, rfl, hlt1, hc1⟩ := HR.out k (by rw [strs_length]; exact hlt)
              rw [strs_at _ _ hlt] at hc1
              have hc2 := (HB.out.cell (p := ⟨b1, o1 + k, none⟩) hlt1).trans hc1
              have htl := HWA.out _ (List.getElem_mem hlt)
              have hn : puts (l.take (k + 1)) = puts (l.take k) ++ put l[k] := by rw [take_next _ _ hlt, puts_snoc]
              have hle2 := HLE.out (k + 1)
              rw [hn, List.length_append] at hle2
              have HN := Lib.hid hn
              have hpt := put_length l[k]
              have HCS := Lib.hid (fun j => cut_short l[k] j)
              clear hn hc1
              generalize l[k] = t at *
              generalize puts (l.take k) = a at *
              go_wp2_with fail
              refine (Put_calls t wr (by omega) HTr.out).mono ?_
              rintro e w1 ⟨rfl, hb1⟩
              have hc3 := (hb1.cell (p := ⟨b1, o1 + k, none⟩) (Nat.lt_of_lt_of_le hlt1 HB.out.size)).trans hc2
              have HB1 := Lib.hid (later HB.out hb1)
              have HT1 := Lib.hid (HT.out.next HB1.out)
              clear hc2 hb1
              generalize put t = pt at *
              go_wp2_with (go_at_call 11; refine (Size_calls t _ (by omega)).mono ?_; rintro e w' ⟨rfl, rfl⟩)
              go_loopw [10] (fun j wx => ∃ m : Nat, m ≤ 8 + t.length ∧ j = .int .i64 m ∧ Below w1.heap.size w1 wx) (fun j _ => 8 + t.length - (intOf j).toNat)
              case atStart => exact ⟨0, by omega, rfl, Below.refl _ _⟩
              case round =>
                rename World => wx
                obtain ⟨m, hm, rfl, hbx⟩ := hrel
                have HBX := Lib.hid hbx
                have HTX := Lib.hid (HT1.out.next hbx)
                by_cases hlm : m < 8 + t.length
                · have hcut := HCS.out m (by omega) hlm
                  clear hbx
                  go_wp2_with fail
                  refine (Cut_calls (pt.take m) wx (by rw [List.length_take]; unfold maxLen; omega) HTX.out).mono ?_
                  rintro e w2 ⟨rfl, hw2⟩
                  rw [hcut]
                  have HB2 := Lib.hid (later HBX.out (drawn_below hw2))
                  clear hw2 hcut
                  go_wp2
                  go_roundw
                  case rel => exact ⟨m + 1, by omega, by go_num, HB2.out⟩
                  case measure => simp [intOf]; omega
                · have hc4 := (hbx.cell (p := ⟨b1, o1 + k, none⟩) (Nat.lt_of_lt_of_le hlt1 HB1.out.size)).trans hc3
                  clear hbx
                  go_wp2_with (go_at_call 11; refine (Size_calls t _ (by omega)).mono ?_; rintro e w' ⟨rfl, rfl⟩)
                  go_roundw
                  case rel => exact ⟨k + 1, by omega, by go_num, by rw [HN.out], by rw [HN.out, List.length_append, hpt]; go_num, later HB1.out HBX.out⟩
                  case measure => simp [intOf]; omega
            · have hkl : k = l.length := by omega
              have htk : l.take k = l := by rw [hkl]; exact List.take_length
              rw [htk] at hle ⊢
              have hsc := scanAll_puts l (fun t ht => by have := HWA.out t ht; omega)
              have HSC := Lib.hid hsc
              clear hkl htk hsc
              generalize puts l = a at *
              go_wp2_with fail
              refine (Scan_calls a wr (by omega) HTr.out).mono ?_
              rintro e w2 ⟨v2, rfl, ho2, hb2⟩
              obtain ⟨p2, c2, rfl, _, _, _⟩ := RowArg.of_own ho2
              rw [HSC.out]
              have HB2 := Lib.hid (later HB.out hb2)
              have HT2 := Lib.hid (HT.out.next HB2.out)
              clear ho2 hb2
              go_wp2_with (go_at_call 8; refine (works_calls _ HT2.out).mono ?_; rintro e w4 ⟨rfl, hb4⟩)
              go_ret
              exact ⟨rfl, later HB2.out hb4⟩
end Go.Proofs.YtjhdjeneblgknaaDoor.Frame
