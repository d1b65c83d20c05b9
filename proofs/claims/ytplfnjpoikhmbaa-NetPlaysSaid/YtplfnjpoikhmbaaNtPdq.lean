/-
  The net (layer 30): pdqsort at numbers of 64 bits: the part is sorted behind it.
  Conditions: the row lies in one block, one cell each; it has fewer than 65536 numbers.
-/
import Derived.Test.YtplfnjpoikhmbaaNtPdqM
import Derived.Test.YtplfnjpoikhmbaaNtRev
import Derived.Test.YtplfnjpoikhmbaaNtHeap
import Derived.Test.YtplfnjpoikhmbaaNtPart
import Derived.Test.YtplfnjpoikhmbaaNtPiv
import Derived.Test.YtplfnjpoikhmbaaNtBrk
import Derived.Test.YtplfnjpoikhmbaaNtPar
open Go Go.RowKit Go.Sort
namespace Go.Proofs.Ytplfnjpoikhmbaa.Nt
open Base

/-- Between two steps of a round. -/
structure At (a b a1 b1 blk off : Nat) (w wr : World) (d r : Array Int) : Prop where
  row : RowTo blk off w wr d r
  part : Part a b d a1 b1 r
section
variable {a b a1 b1 blk off : Nat} {w wr w1 : World} {d r r1 : Array Int}
theorem At.turn (hblk : blk < w.heap.size) (h : At a b a1 b1 blk off w wr d r) (k : RowTo blk off wr w1 r r1) (hp : PermIn a1 b1 r r1) : At a b a1 b1 blk off w w1 d r1 := ⟨h.row.trans hblk k, h.part.turn hp⟩
theorem At.same (hblk : blk < w.heap.size) (h : At a b a1 b1 blk off w wr d r) (k : RowTo blk off wr w1 r r) : At a b a1 b1 blk off w w1 d r := ⟨h.row.trans hblk k, h.part⟩
theorem At.drewN (h : At a b a1 b1 blk off w wr d r) (n : Nat) : At a b a1 b1 blk off w (wr.drewN n) d r := ⟨h.row.drewN n, h.part⟩
theorem At.top (h : At a b a1 b1 blk off w wr d r) : b1 ≤ d.size := by have := h.part.size; rw [h.row.size] at this; exact this
end
def PdqSpec (blk off : Nat) (a b : Nat) (d : Array Int) (w : World) (e : Ending) (w' : World) : Prop := e = .returned (.tuple #[]) ∧ ∃ d', RowTo blk off w w' d d' ∧ PermIn a b d d' ∧ SortedIn ltInt a b d'

set_option maxRecDepth 100000 in
set_option maxHeartbeats 16000000 in
theorem Pdq_step (N : Nat)
    (IH : ∀ (blk off cap a b L : Nat) (d : Array Int) (w : World), b - a < N → Holds U w blk off d → blk < w.heap.size → a ≤ b → b ≤ d.size → d.size < 65536 → L ≤ 64 → Sort.Below ltInt a b d →
      Calls Try.prog 31 #[.slice (some ⟨blk, off, none⟩) d.size cap, .int .i64 a, .int .i64 b, .int .i64 L] w (PdqSpec blk off a b d w))
    (blk off cap a b L : Nat) (d : Array Int) (w : World) (hN : b - a ≤ N) (hH : Holds U w blk off d) (hblk : blk < w.heap.size) (hab : a ≤ b) (hb : b ≤ d.size) (hsz : d.size < 65536) (hL : L ≤ 64) (hB : Sort.Below ltInt a b d) :
    Calls Try.prog 31 #[.slice (some ⟨blk, off, none⟩) d.size cap, .int .i64 a, .int .i64 b, .int .i64 L] w (PdqSpec blk off a b d w) := by
  have HH := Lib.hid hH
  have HA0 := Lib.hid (show At a b a b blk off w w d d from ⟨RowTo.refl hH, Part.start hab hb hB⟩)
  have HIH := Lib.hid IH
  clear hH hB IH
  go_enter Try.func31, Try.ntmps31
  go_wp2
  go_loopw [1, 2, 3, 8, 9] (fun x1 x2 x3 x8 x9 wr => ∃ (a1 b1 L1 : Nat) (wb wp : Bool) (r : Array Int), x1 = .int .i64 (a1 : Int) ∧ x2 = .int .i64 (b1 : Int) ∧ x3 = .int .i64 (L1 : Int) ∧ x8 = .bool wb ∧ x9 = .bool wp ∧ L1 ≤ 64 ∧ At a b a1 b1 blk off w wr d r) (fun x1 x2 _ _ _ _ => (intOf x2 - intOf x1).toNat)
  case atStart => exact ⟨a, b, L, true, true, d, rfl, rfl, rfl, rfl, rfl, hL, HA0.out⟩
  case round =>
    clear HA0
    obtain ⟨a1, b1, L1, wb, wp, r, rfl, rfl, rfl, rfl, rfl, hL1, hA⟩ := hrel
    have HA := Lib.hid hA
    have hlo := hA.part.lo
    have hmid := hA.part.mid
    have hhi := hA.part.hi
    have hrs := hA.row.size
    have hHr := hA.row.holds hblk HH.out
    have hblkr := hA.row.lt hblk
    obtain ⟨n, hn⟩ : ∃ n : Nat, b1 = a1 + n := ⟨b1 - a1, by omega⟩
    have HN1 := Lib.hid hn
    have hsz2 := HA.out.part.size
    have eS : (b1 : Int) - (a1 : Int) = (n : Int) := by omega
    clear hn
    by_cases h12 : n ≤ 12
    · have t1 : (n : Int) ≤ 12 := by omega
      have HC := Lib.hid (hrs ▸ Insert_f blk off cap a1 b1 r wr hHr hmid hsz2 (by omega))
      have HD := Lib.hid (insertionSort_holds swo r a1 b1 hmid hsz2)
      clear hA hHr hblkr
      go_wp2_with fail
      with_reducible refine HC.out.mono ?_
      rintro e w2 ⟨rfl, m, hw2⟩
      have HE := Lib.hid (HA.out.row.trans hblk (RowTo.of_put HD.out.1.1 hw2))
      clear hw2
      go_wp2
      (try simp only [Exit.inBlock, Exit.then])
      refine bodyPost_ret (results_none rfl _ _ _) rfl ?_
      exact ⟨rfl, _, HE.out, HA.out.part.done HD.out.1 HD.out.2⟩
    · have t1 : ¬ (n : Int) ≤ 12 := by omega
      by_cases hL0 : L1 = 0
      · subst hL0
        have HC := Lib.hid (hrs ▸ Heap_f blk off cap a1 b1 r wr hHr hblkr hmid hsz2 (by omega))
        have HD := Lib.hid (heapSort_holds swo r a1 b1 hmid hsz2)
        clear hA hHr hblkr
        go_wp2_with fail
        with_reducible refine HC.out.mono ?_
        rintro e w2 ⟨rfl, hw2⟩
        have HE := Lib.hid (HA.out.row.trans hblk hw2)
        clear hw2
        go_wp2
        (try simp only [Exit.inBlock, Exit.then])
        refine bodyPost_ret (results_none rfl _ _ _) rfl ?_
        exact ⟨rfl, _, HE.out, HA.out.part.done HD.out.1 HD.out.2⟩
      · obtain ⟨L2, rfl⟩ : ∃ L2, L1 = L2 + 1 := ⟨L1 - 1, by omega⟩
        have t2 : ((L2 : Int) + 1 == 0) = false := by simp; omega
        have t3 : (L2 : Int) + 1 - 1 = (L2 : Int) := by omega
        have hab1 : a1 < b1 := by have := HN1.out; omega
        clear hA hHr hblkr hL0
        go_upto_if 35 with fail
        go_cut [3] from 19 to 133 (fun u wx => ∃ (L3 : Nat) (r3 : Array Int), u = .int .i64 (L3 : Int) ∧ L3 ≤ 64 ∧ At a b a1 b1 blk off w wx d r3)
        case first =>
          cases wb with
          | true =>
            go_wp2
            go_meet
            exact ⟨L2 + 1, r, by first | rfl | go_num, by omega, HA.out⟩
          | false =>
            have HC := Lib.hid (hrs ▸ Break_f blk off cap a1 b1 r wr (HA.out.row.holds hblk HH.out) (HA.out.row.lt hblk) hmid hsz2 (by omega))
            go_wp2_with fail
            with_reducible refine HC.out.mono ?_
            rintro e w2 ⟨rfl, r2, hr2, hp2⟩
            have HA2 := Lib.hid (HA.out.turn hblk hr2 hp2)
            clear hr2 hp2
            go_wp2
            go_meet
            exact ⟨L2, r2, by first | rfl | go_num, by omega, HA2.out⟩
        case rest =>
        obtain ⟨L3, r3, rfl, hL3, hA3⟩ := hcut
        have HA3 := Lib.hid hA3
        have HC3 := Lib.hid (hA3.row.size ▸ Pivot_f blk off cap a1 b1 r3 wc (hA3.row.holds hblk HH.out) (hA3.row.lt hblk) hab1 hA3.part.size (by have := hA3.row.size; omega))
        clear hA3 HA t2 t3 hL1 hsz2 hrs
        go_wp2_with fail
        with_reducible refine HC3.out.mono ?_
        rintro e w2 ⟨p, hint, rfl, hp1, hp2, hh, hr2⟩
        have HA4 := Lib.hid (HA3.out.same hblk hr2)
        clear hr2 HC3 HA3
        go_upto_if 50 with fail
        go_cut [11, 12] from 19 to 133 (fun u v wx => ∃ (p2 h2 : Nat) (r4 : Array Int), u = .int .i64 (p2 : Int) ∧ v = .int .i64 (h2 : Int) ∧ a1 ≤ p2 ∧ p2 < b1 ∧ At a b a1 b1 blk off w wx d r4)
        case first =>
          by_cases hh2 : hint = 2
          · subst hh2
            have HC := Lib.hid (HA4.out.row.size ▸ Reverse_f blk off cap a1 b1 r3 w2 (HA4.out.row.holds hblk HH.out) (HA4.out.row.lt hblk) hmid HA4.out.part.size (by have := HA4.out.row.size; omega))
            go_wp2_with fail
            with_reducible refine HC.out.mono ?_
            rintro e w3 ⟨rfl, r4, hr4, hp4⟩
            have HA5 := Lib.hid (HA4.out.turn hblk hr4 hp4)
            clear hr4 hp4
            go_wp2
            go_meet
            exact ⟨b1 - 1 - (p - a1), 1, r4, by go_num, by first | rfl | go_num, by omega, by omega, HA5.out⟩
          · have t5 : ((hint : Int) == 2) = false := by simp; omega
            go_wp2
            go_meet
            exact ⟨p, hint, r3, by first | rfl | go_num, by first | rfl | go_num, hp1, hp2, HA4.out⟩
        case rest =>
        clear HA4 hp1 hp2 hh
        obtain ⟨p2, h2, r4, rfl, rfl, hp1, hp2, hA4⟩ := hcut
        have HA4 := Lib.hid hA4
        clear hA4
        go_upto_region 15 with fail
        go_cut [68] from 19 to 133 (fun u wx => ∃ tb : Bool, u = .bool tb ∧ wx = wc)
        case first =>
          cases wb with
          | false =>
            go_wp2
            go_meet
            exact ⟨false, rfl, rfl⟩
          | true =>
            cases wp with
            | false =>
              go_wp2
              go_meet
              exact ⟨false, rfl, rfl⟩
            | true =>
              go_wp2
              go_meet
              exact ⟨_, rfl, rfl⟩
        case rest =>
        obtain ⟨tb, rfl, rfl⟩ := hcut
        go_upto_if 68 with fail
        go_cut [13] from 19 to 133 (fun _ wx => ∃ r5 : Array Int, At a b a1 b1 blk off w wx d r5)
        case first =>
          cases tb with
          | false =>
            go_wp2
            go_meet
            exact ⟨r4, HA4.out⟩
          | true =>
            have HC := Lib.hid (HA4.out.row.size ▸ Partial_f blk off cap a1 b1 r4 wc (HA4.out.row.holds hblk HH.out) (HA4.out.row.lt hblk) hab1 HA4.out.part.size (by have := HA4.out.row.size; omega))
            have HD := Lib.hid (partialInsertionSort_holds swo r4 a1 b1 hab1 HA4.out.part.size HA4.out.part.below)
            generalize partialInsertionSort ltInt r4 a1 b1 = R at *
            obtain ⟨r5, fin5⟩ := R
            go_wp2_with fail
            with_reducible refine HC.out.mono ?_
            rintro e w3 ⟨rfl, hr5⟩
            have HA5 := Lib.hid (HA4.out.turn hblk hr5 HD.out.1)
            have HE := Lib.hid (HA4.out.row.trans hblk hr5)
            clear hr5 HC
            cases fin5 with
            | false =>
              go_wp2
              go_meet
              exact ⟨r5, HA5.out⟩
            | true =>
              go_wp2
              (try simp only [Exit.inBlock, Exit.then])
              refine bodyPost_ret (results_none rfl _ _ _) rfl ?_
              exact ⟨rfl, _, HE.out, HA4.out.part.done HD.out.1 (HD.out.2 (by first | trivial | rfl))⟩
        case rest =>
        clear HA4
        obtain ⟨r5, hA5⟩ := hcut
        have HA5 := Lib.hid hA5
        have hs5 := hA5.row.size
        have ht5 := hA5.top
        obtain ⟨G, hG⟩ : ∃ G : Nat → Int, ∀ t, G t = r5[t]! := ⟨fun t => r5[t]!, fun _ => rfl⟩
        obtain ⟨cw, -⟩ := row_cells (hA5.row.holds hblk HH.out) G hG
        rw [hs5] at cw
        have HG := Lib.hid hG
        have HS5 := Lib.hid hs5
        obtain ⟨tb2, htb⟩ : ∃ tb2 : Bool, tb2 = (decide (0 < a1) && !ltInt (G (a1 - 1)) (G p2)) := ⟨_, rfl⟩
        have HT := Lib.hid htb
        clear hG hA5 hs5 htb
        go_upto_region 17 with fail
        go_cut [87] from 19 to 133 (fun u wx => u = .bool tb2 ∧ ∃ m : Nat, wx = wc.drewN m)
        case first =>
          have cp := cw p2 (by omega)
          by_cases h0 : 0 < a1
          · obtain ⟨k, hk⟩ : ∃ k, a1 = k + 1 := ⟨a1 - 1, by omega⟩
            have u1 : (a1 : Int) - 1 = (k : Int) := by omega
            have u2 : 0 < (a1 : Int) := by omega
            have u3 : (k : Int) < (d.size : Int) := by omega
            have u4 : (p2 : Int) < (d.size : Int) := by omega
            have ck := cw k (by omega)
            have HX := Lib.hid (show tb2 = !ltInt (G k) (G p2) by rw [HT.out, show a1 - 1 = k by omega]; simp [h0])
            clear cw hk
            go_quiet (first | (go_at_call 39; refine Calls.quiet_of_same (Less_f _ _ _)))
            go_wp2
            go_meet
            exact ⟨by rw [HX.out], nq, rfl⟩
          · have u2 : decide (0 < (a1 : Int)) = false := decide_eq_false (by omega)
            have HX := Lib.hid (show tb2 = false by rw [HT.out]; simp [h0])
            clear cw
            go_quiet (first | (go_at_call 39; refine Calls.quiet_of_same (Less_f _ _ _)))
            go_wp2
            go_meet
            exact ⟨by rw [HX.out], nq, rfl⟩
        case rest =>
        obtain ⟨rfl, m0, rfl⟩ := hcut
        have HA6 := Lib.hid (HA5.out.drewN m0)
        clear HA5 cw
        generalize wc.drewN m0 = w6 at *
        cases tb2 with
        | true =>
          have h0 : 0 < a1 ∧ ltInt r5[a1 - 1]! r5[p2]! = false := by
            have := HT.out.symm
            rw [HG.out, HG.out, Bool.and_eq_true, decide_eq_true_eq] at this
            exact ⟨this.1, by simpa using this.2⟩
          have HD := Lib.hid (HA6.out.part.equal h0.1 hp1 hp2 h0.2)
          have HC := Lib.hid (HS5.out ▸ PartEq_f blk off cap a1 b1 p2 r5 w6 (HA6.out.row.holds hblk HH.out) (HA6.out.row.lt hblk) hp1 hp2 HA6.out.part.size (by have := HS5.out; omega))
          clear h0 HT
          generalize partitionEqual ltInt r5 a1 b1 p2 = E at *
          obtain ⟨m, q⟩ := E
          go_wp2_with fail
          with_reducible refine HC.out.mono ?_
          rintro e w7 ⟨rfl, hr7⟩
          have HA7 := Lib.hid (show At a b m b1 blk off w w7 d q from ⟨HA6.out.row.trans hblk hr7, HD.out.2⟩)
          have hm1 : a1 < m := HD.out.1
          have hm2 : m ≤ b1 := HD.out.2.mid
          clear hr7 HC HD HA6
          go_wp2
          go_roundw
          case rel => first | exact ⟨m, b1, L3, wb, wp, q, rfl, rfl, rfl, rfl, rfl, hL3, HA7.out⟩ | ((repeat apply Exists.intro); exact ⟨⟨m, b1, L3, wb, wp, q, rfl, rfl, rfl, rfl, rfl, hL3, HA7.out⟩, rfl⟩)
          case measure => simp [intOf]; omega
        | false =>
          have HD := Lib.hid (HA6.out.part.split hp1 hp2)
          have HC := Lib.hid (HS5.out ▸ Part_f blk off cap a1 b1 p2 r5 w6 (HA6.out.row.holds hblk HH.out) (HA6.out.row.lt hblk) hp1 hp2 HA6.out.part.size (by have := HS5.out; omega))
          clear HT
          generalize partition ltInt r5 a1 b1 p2 = E at *
          obtain ⟨m, pre, q⟩ := E
          go_wp2_with fail
          with_reducible refine HC.out.mono ?_
          rintro e w7 ⟨rfl, hr7⟩
          have HR7 := Lib.hid (HA6.out.row.trans hblk hr7)
          have hm1 : a1 ≤ m := HD.out.lo
          have hm2 : m < b1 := HD.out.hi
          have hsq : q.size = d.size := HR7.out.size
          have HSQ := Lib.hid hsq
          have HI7 := Lib.hid (fun (x y : Nat) (hxy : x ≤ y) (hy : y ≤ b1) (hl : y - x < N) (hbw : Sort.Below ltInt x y q) => HSQ.out ▸ HIH.out blk off cap x y L3 q w7 hl (HR7.out.holds hblk HH.out) (HR7.out.lt hblk) hxy (by have := HSQ.out; omega) (by have := HSQ.out; omega) hL3 hbw)
          clear hr7 HC HA6 hsq
          by_cases hlr : m - a1 < b1 - m
          · have v1 : (m : Int) - (a1 : Int) < (b1 : Int) - (m : Int) := by omega
            have HC7 := Lib.hid (HI7.out a1 m hm1 (by omega) (by omega) HD.out.belowL)
            go_wp2_with fail
            with_reducible refine HC7.out.mono ?_
            rintro e w8 ⟨rfl, q1, hr8, hp8, hs8⟩
            have HA8 := Lib.hid (show At a b (m + 1) b1 blk off w w8 d q1 from ⟨HR7.out.trans hblk hr8, HD.out.goR hp8 hs8⟩)
            clear hr8 hp8 hs8
            go_wp2
            go_roundw
            case rel => first | exact ⟨m + 1, b1, L3, _, pre, q1, by first | rfl | go_num, rfl, rfl, rfl, rfl, hL3, HA8.out⟩ | ((repeat apply Exists.intro); exact ⟨⟨m + 1, b1, L3, _, pre, q1, by first | rfl | go_num, rfl, rfl, rfl, rfl, hL3, HA8.out⟩, rfl⟩)
            case measure => simp [intOf]; omega
          · have v1 : ¬ (m : Int) - (a1 : Int) < (b1 : Int) - (m : Int) := by omega
            have e8 : ((m + 1 : Nat) : Int) = (m : Int) + 1 := by omega
            have HC7 := Lib.hid (e8 ▸ HI7.out (m + 1) b1 (by omega) (Nat.le_refl _) (by omega) HD.out.belowR)
            clear e8
            go_wp2_with fail
            with_reducible refine HC7.out.mono ?_
            rintro e w8 ⟨rfl, q1, hr8, hp8, hs8⟩
            have HA8 := Lib.hid (show At a b a1 m blk off w w8 d q1 from ⟨HR7.out.trans hblk hr8, HD.out.goL hp8 hs8⟩)
            clear hr8 hp8 hs8
            go_wp2
            go_roundw
            case rel => first | exact ⟨a1, m, L3, _, pre, q1, rfl, rfl, rfl, rfl, rfl, hL3, HA8.out⟩ | ((repeat apply Exists.intro); exact ⟨⟨a1, m, L3, _, pre, q1, rfl, rfl, rfl, rfl, rfl, hL3, HA8.out⟩, rfl⟩)
            case measure => simp [intOf]; omega
theorem Pdq_f : ∀ (N : Nat) (blk off cap a b L : Nat) (d : Array Int) (w : World), b - a ≤ N → Holds U w blk off d → blk < w.heap.size → a ≤ b → b ≤ d.size → d.size < 65536 → L ≤ 64 → Sort.Below ltInt a b d →
    Calls Try.prog 31 #[.slice (some ⟨blk, off, none⟩) d.size cap, .int .i64 a, .int .i64 b, .int .i64 L] w (PdqSpec blk off a b d w)
  | 0, blk, off, cap, a, b, L, d, w, hN, hH, hblk, hab, hb, hsz, hL, hB => Pdq_step 0 (fun _ _ _ _ _ _ _ _ h => absurd h (by omega)) blk off cap a b L d w hN hH hblk hab hb hsz hL hB
  | N + 1, blk, off, cap, a, b, L, d, w, hN, hH, hblk, hab, hb, hsz, hL, hB => Pdq_step (N + 1) (fun blk off cap a b L d w hN => Pdq_f N blk off cap a b L d w (by omega)) blk off cap a b L d w hN hH hblk hab hb hsz hL hB
end Go.Proofs.Ytplfnjpoikhmbaa.Nt
