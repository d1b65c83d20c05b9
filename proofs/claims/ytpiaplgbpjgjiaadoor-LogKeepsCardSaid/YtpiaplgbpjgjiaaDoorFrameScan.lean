/-
  The walks of layer 6: Scan, the document's own, and the laws' same; under the sum's table.
-/
import Derived.Test.YtpiaplgbpjgjiaaDoorFrameCut
open Go Go.RowKit
namespace Go.Proofs.YtpiaplgbpjgjiaaDoor.Frame
open Base Crc

/-- Texts as values. -/
def strs (l : List (List UInt8)) : List Value := l.map fun t => .string (B t)
theorem strs_length (l : List (List UInt8)) : (strs l).length = l.length := by simp [strs]
theorem strs_snoc (l : List (List UInt8)) (t : List UInt8) : strs (l ++ [t]) = strs l ++ [.string (B t)] := by simp [strs]
theorem strs_at (l : List (List UInt8)) (j : Nat) (h : j < l.length) : (strs l)[j]'(by rw [strs_length]; exact h) = .string (B l[j]) := by simp [strs]

theorem infoS : (Tryd.prog.info? 9).map (fun i => (i.zero, i.size, i.bytes)) = some (some (.string ⟨#[]⟩), 1, 16) := by kernel_rfl

/-- How a scan stands in the middle: what is left, and the texts that came. -/
structure Scanning (l : List UInt8) (ts : List (List UInt8)) (r : List UInt8) (v : Value) (w0 wr : World) : Prop where
  eq : scanAll l = (ts ++ (scanAll r).1, (scanAll r).2)
  own : wr.ownsRow w0.heap.size 9 1 v ts.length (strs ts)
  below : Below w0.heap.size w0 wr
  len : r.length + 8 * ts.length ≤ l.length
theorem Scanning.start (l : List UInt8) (w : World) : Scanning l [] l (.slice none 0 0) w w := ⟨by simp, World.ownsRow_nil _ _ _ _, Below.refl _ _, by simp⟩
theorem Scanning.next {l r : List UInt8} {ts : List (List UInt8)} {v v' : Value} {w0 wr w1 w2 : World} (h : Scanning l ts r v w0 wr) (h0 : r ≠ []) (hc : (cut r).2.2 = 0) (hb : Below wr.heap.size wr w1)
    (hown : w2.ownsRow w0.heap.size 9 1 v' (ts.length + 1) (strs ts ++ [.string (B (cut r).1)])) (hg : w1.grownBy w2 v.ownBlock) : Scanning l (ts ++ [(cut r).1]) (cut r).2.1 v' w0 w2 := by
  refine ⟨?_, ?_, ?_, ?_⟩
  · rw [h.eq, scanAll_good r h0 hc]; simp
  · rw [strs_snoc, List.length_append]; exact hown
  · exact (h.below.trans (hb.mono h.below.size)).grown hg (Nat.le_trans h.below.size hb.size) (fun k hk => (h.own.lt k hk).1)
  · have h1 := cut_rest r hc
    have h2 := h.len
    simp only [List.length_append, List.length_cons, List.length_nil]
    omega

set_option maxHeartbeats 1000000 in
theorem Scan_calls (l : List UInt8) (w : World) (hl : l.length ≤ 1048576) (hT : TabOk w) :
    Calls Tryd.prog 25 #[.string (B l)] w fun e w' => ∃ v, e = .returned (.tuple #[v, .int .i64 ((l.length : Int) - ((scanAll l).2.1.length : Nat)), .int .i64 ((scanAll l).2.2 : Nat)]) ∧
      w'.ownsRow w.heap.size 9 1 v (scanAll l).1.length (strs (scanAll l).1) ∧ Below w.heap.size w w' := by
  have HT := Lib.hid hT
  clear hT
  obtain ⟨i0, hi, hz0, hz1, hz2⟩ := info_parts infoS
  go_enter Tryd.func25, Tryd.ntmps25
  go_wp2
  go_step3
  go_wp2
  go_step3
  go_wp2
  have hle := scanAll_left l
  go_loopw [2, 4, 5] (fun v ee x wr => ∃ (ts : List (List UInt8)) (r : List UInt8), ee = .int .i64 0 ∧ x = .string (B r) ∧ Scanning l ts r v w wr) (fun _ _ x _ => (match x with | .string s => s.size | _ => 0))
  case atStart => exact ⟨[], l, rfl, rfl, Scanning.start l w⟩
  case round =>
    obtain ⟨ts, r, rfl, rfl, hs⟩ := hrel
    have HS := Lib.hid hs
    have hrl := hs.len
    have hT2 := HT.out.next hs.below
    have HT2 := Lib.hid hT2
    clear hs hT2
    by_cases h0 : r = []
    · subst h0
      have hb : (B []).toList = [] := B_toList []
      have he := HS.out.eq
      rw [scanAll_nil, List.append_nil] at he
      have HE := Lib.hid he
      clear he
      go_wp2
      go_ret3
      exact ⟨u2, by rw [HE.out]; simp, by rw [HE.out]; exact HS.out.own, HS.out.below⟩
    · have hbn : r.isEmpty = false := by cases r <;> simp_all
      by_cases hc : (cut r).2.2 = 0
      · have HN := Lib.hid (fun v' w1 w2 => HS.out.next (v' := v') (w1 := w1) (w2 := w2) h0 hc)
        have hrest := cut_rest r hc
        go_wp2_with fail
        refine (Cut_calls r wr (by unfold maxLen; omega) HT2.out).mono ?_
        rintro e w1 ⟨rfl, hw1⟩
        rw [hc]
        have hb1 : Below wr.heap.size wr w1 := by obtain ⟨m, rfl⟩ := hw1; exact (Below.refl _ _).drewN m
        have hown : w1.ownsRow w.heap.size 9 1 u2 ts.length (strs ts) := own_next HS.out.own hb1
        have hsz : w.heap.size ≤ w1.heap.size := Nat.le_trans HS.out.below.size hb1.size
        have HB1 := Lib.hid hb1
        clear hw1 hb1 hc
        generalize (cut r).1 = t at *
        generalize (cut r).2.1 = r2 at *
        have hts : ts.length ≤ 1048576 := by omega
        clear h0 hbn
        go_wp2_with (at_builtin; refine wpList_append_own _ rfl _ _ 24 rfl w.heap.size 9 i0 (.string ⟨#[]⟩) 1 16 Tryd.underlying24 hi hz0 hz1 hz2 rfl (by decide) _ _ _ rfl (hown.alloc _) ⟨w1.heap.size, 0, none⟩ 1 1 [.string (B t)] rfl rfl ?c1 ?c2 ?c3 ?c4 ?c5 ?_)
        case c1 => exact cell_one_new _ _ _
        case c2 => simp [Value.oneCell']
        case c3 => unfold maxLen; omega
        case c4 => omega
        case c5 => simp; omega
        intro v' w2 hown2 hg2 _
        have HN2 := Lib.hid (HN.out _ _ _ (HB1.out.alloc HB1.out.size _) hown2 hg2)
        clear hown2 hg2 hown
        go_wp2
        go_roundw
        case rel => exact ⟨ts ++ [t], r2, rfl, rfl, HN2.out⟩
        case measure => simp [B_size]; omega
      · have hbad := scanAll_bad r h0 hc
        have he := HS.out.eq
        rw [hbad, List.append_nil] at he
        have HE := Lib.hid he
        have HC := Lib.hid (cut_err r)
        have hcz : (((cut r).2.2 : Nat) : Int) ≠ 0 := by omega
        have hcb : ((((cut r).2.2 : Nat) : Int) == 0) = false := beq_eq_false_iff_ne.2 hcz
        clear hbad he hc h0
        go_wp2_with fail
        refine (Cut_calls r wr (by unfold maxLen; omega) HT2.out).mono ?_
        rintro e w1 ⟨rfl, hw1⟩
        have HW := Lib.hid hw1
        clear hw1
        generalize (cut r).1 = t at *
        generalize (cut r).2.1 = r2 at *
        generalize (cut r).2.2 = ee at *
        go_wp2
        rw [Exit.noGoto_ret]
        go_ret3
        obtain ⟨m, rfl⟩ := HW.out
        exact ⟨u2, by rw [HE.out]; rfl, by rw [HE.out]; exact own_drewN HS.out.own m, HS.out.below.drewN m⟩

end Go.Proofs.YtpiaplgbpjgjiaaDoor.Frame
