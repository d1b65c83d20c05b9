/-
  The walk of ShaPieces (layer 4).
-/
import Derived.Test.YtjhmpoekpambaaaDoorShaWorks
import Derived.Deep.RegionHeld3
import Derived.Deep.DrawnRows
open Go Go.RowKit
namespace Go.Proofs.YtjhmpoekpambaaaDoor.Sha
open Base

theorem flat_bound (l : List (List UInt8)) (hz : ∀ t ∈ l, t.length ≤ 140737488351232) (k : Nat) (hk : k ≤ 300) : ((l.take k).flatten).length ≤ 300 * 140737488351232 := by
  have h : ∀ (m : List (List UInt8)), (∀ t ∈ m, t.length ≤ 140737488351232) → m.flatten.length ≤ m.length * 140737488351232 := by
    intro m
    induction m with
    | nil => simp
    | cons a r ih =>
      intro hm
      have h1 := hm a (by simp)
      have h2 := ih (fun t ht => hm t (by simp [ht]))
      simp only [List.flatten_cons, List.length_append, List.length_cons]
      omega
  have h1 := h (l.take k) (fun t ht => hz t (List.mem_of_mem_take ht))
  have h2 : (l.take k).length ≤ 300 := by rw [List.length_take]; omega
  have h3 := Nat.mul_le_mul_right 140737488351232 h2
  exact Nat.le_trans h1 h3
/-- The worlds of a round of the law: the hash at m has the bytes cur. -/
structure PInv (w0 : World) (m : Nat) (cur : List UInt8) (W : World) : Prop where
  hash : HashAt W m cur
  below : Below w0.heap.size w0 W
theorem PInv.next {w0 W W' : World} {m : Nat} {cur : List UInt8} (h : PInv w0 m cur W) (hb : Below W.heap.size W W') : PInv w0 m cur W' := ⟨h.hash.below hb, later h.below hb⟩
theorem keep_cell {W W' : World} (hb : Below W.heap.size W W') (a : Addr) (v : Value) (h : W.cell? a = some v) : W'.cell? a = some v := (World.cell?_of_block (hb.block a.block (lt_of_cell h))).trans h

set_option maxHeartbeats 8000000 in
set_option maxRecDepth 100000 in
theorem ShaPieces_calls (w : World) (p : Option Addr) (cap : Nat) (l : List (List UInt8)) (hO : Ok w) (hl : l.length ≤ maxLen) (hcap : l.length ≤ cap) (ha : RowArg w p (l.map fun x => .string (B x))) (hz : ∀ t ∈ l, t.length ≤ 140737488351232) :
    Calls Tryd.prog 4 #[.slice p l.length cap] w fun e w' => e = .returned (.bool true) ∧ Below w.heap.size w w' := by
  unfold maxLen at hl
  have HW := Lib.hid (works_calls w hO)
  have HN := Lib.hid (New_calls w hO.start)
  have HOK := Lib.hid hO
  have HA := Lib.hid ha
  have HZ := Lib.hid hz
  have HFB := Lib.hid (flat_bound l hz)
  clear hO ha hz
  go_enter Tryd.func4, Tryd.ntmps4
  go_wp2
  go_loop [3, 4] (fun v u => ∃ k : Nat, u = .int .i64 k ∧ k ≤ l.length ∧ k ≤ 300 ∧ v = .int .i64 (((l.take k).flatten.length : Nat) : Int)) (fun _ u => l.length - (intOf u).toNat)
  case atStart => exact ⟨0, rfl, Nat.zero_le _, by omega, by simp⟩
  case round =>
    obtain ⟨k, rfl, hk, hk3, rfl⟩ := hrel
    have hfb := HFB.out k hk3
    by_cases hgo : k < l.length ∧ k < 300
    · obtain ⟨hlt, h300⟩ := hgo
      obtain ⟨bb, off, rfl, -, hcell⟩ := HA.out k (by simpa using hlt)
      rw [List.getElem_map] at hcell
      have hx := HZ.out l[k] (List.getElem_mem hlt)
      have HF := Lib.hid (flat_step l k hlt)
      have t1 : (k : Int) < (l.length : Int) := by omega
      have t2 : (k : Int) < 300 := by omega
      generalize l[k] = x at *
      generalize (l.take k).flatten = c at *
      go_wp2
      exact ⟨⟨k + 1, by go_num, by omega, by omega, by rw [HF.out, List.length_append]; go_num⟩, by simp [intOf]; omega⟩
    · have HFL := Lib.hid (show k = l.length → ((l.take k).flatten).length = l.flatten.length from fun e => by rw [e, List.take_length])
      generalize ((l.take k).flatten).length = n at *
      by_cases hbig : 200 < l.length
      · have t4 : (200 : Int) < (l.length : Int) := by omega
        by_cases hkl : k < l.length
        · have t1 : (k : Int) < (l.length : Int) := by omega
          have t2 : ¬ (k : Int) < 300 := by omega
          clear hgo hk hk3 hbig hkl hfb hcap
          go_wp2_with fail
          refine HW.out.mono ?_
          rintro e w2 ⟨rfl, hb⟩
          have HB := Lib.hid hb
          clear hb
          go_wp2
          go_ret
          exact ⟨rfl, HB.out⟩
        · have t1 : ¬ (k : Int) < (l.length : Int) := by omega
          clear hgo hk hk3 hbig hkl hfb hcap
          go_wp2_with fail
          refine HW.out.mono ?_
          rintro e w2 ⟨rfl, hb⟩
          have HB := Lib.hid hb
          clear hb
          go_wp2
          go_ret
          exact ⟨rfl, HB.out⟩
      have t4 : ¬ (200 : Int) < (l.length : Int) := by omega
      have t1 : ¬ (k : Int) < (l.length : Int) := by omega
      have hn := HFL.out (by omega)
      by_cases hn2 : 8192 < n
      · have t5 : (8192 : Int) < (n : Int) := by omega
        clear hgo hk hk3 hbig hfb hcap hn2 hn
        go_wp2_with fail
        refine HW.out.mono ?_
        rintro e w2 ⟨rfl, hb⟩
        have HB := Lib.hid hb
        clear hb
        go_wp2
        go_ret
        exact ⟨rfl, HB.out⟩
      have t5 : ¬ (8192 : Int) < (n : Int) := by omega
      have HFLAT := Lib.hid (show l.flatten.length ≤ 8192 by omega)
      have HCAP := Lib.hid hcap
      have HBIG := Lib.hid (show l.length ≤ 200 by omega)
      have hlow := HOK.out.low.1
      have HLOW := Lib.hid hlow
      clear hgo hk hk3 hbig hfb hcap hn2 hn HFL hlow
      go_wp2_with fail
      refine HN.out.mono ?_
      clear HN
      rintro e w1 ⟨rfl, hh, hb⟩
      have HH := Lib.hid hh
      have HB := Lib.hid hb
      clear hh hb
      go_wp2
      go_loopw [6, 7] (fun v u wr => ∃ k : Nat, u = .int .i64 k ∧ k ≤ l.length ∧ v = .string (B (l.take k).flatten) ∧ PInv w w.heap.size (l.take k).flatten wr) (fun _ u _ => l.length - (intOf u).toNat)
      case atStart => exact ⟨0, rfl, Nat.zero_le _, rfl, ⟨HH.out, HB.out⟩⟩
      case round =>
        obtain ⟨j, rfl, hj, rfl, hI⟩ := hrel
        clear HH HB
        have HI := Lib.hid hI
        clear hI
        by_cases hlt : j < l.length
        · obtain ⟨bb, off, rfl, -, hcell⟩ := (HA.out.below HI.out.below) j (by simpa using hlt)
          rw [List.getElem_map] at hcell
          have HF := Lib.hid (flat_step l j hlt)
          have hfl := flat_len l (j + 1)
          have hflat := HFLAT.out
          have hfl2 := hfl
          rw [HF.out, List.length_append] at hfl
          have HAD := Lib.hid (Add_calls wr w.heap.size _ l[j] HI.out.hash (HOK.out.below HI.out.below).tab (by have := HLOW.out; omega) (by omega))
          have t6 : (j : Int) < (l.length : Int) := by omega
          have hx1 : l[j].length ≤ 8192 := by omega
          have hx2 : ((l.take j).flatten).length ≤ 8192 := by omega
          have hx3 : ((l.take j).flatten ++ l[j]).length ≤ 8192 := by rw [List.length_append]; omega
          clear hfl hfl2 hflat
          go_wp2_with fail
          refine HAD.out.mono ?_
          clear HAD
          rintro e w5 ⟨rfl, hh, hkp⟩
          have hb5 := HI.out.below.trans (hkp.below (fun i hi => by rw [hi]; exact Nat.le_refl _) HI.out.below.size)
          have hI5 : PInv w w.heap.size ((l.take j).flatten ++ l[j]) w5 := ⟨hh, hb5⟩
          have HI5 := Lib.hid hI5
          obtain ⟨bb2, off2, hpp, -, hcell2⟩ := (HA.out.below hb5) j (by simpa using hlt)
          rw [List.getElem_map] at hcell2
          injection hpp with hpp
          injection hpp with h1 h2
          subst h1 h2
          clear hh hkp hb5 hcell hI5
          have hsum : ∀ W, PInv w w.heap.size ((l.take j).flatten ++ l[j]) W → Calls Tryd.prog 12 #[.pointer (some ⟨w.heap.size, 0, none⟩)] W fun e w' => e = .returned (.string (B (digest ((l.take j).flatten ++ l[j])))) ∧ PInv w w.heap.size ((l.take j).flatten ++ l[j]) w' ∧ Below W.heap.size W w' := fun W hI =>
            (Sum_calls W w.heap.size _ hI.hash (HOK.out.below hI.below).tab (by omega)).mono fun e w' ⟨he, hb⟩ => ⟨he, hI.next hb, hb⟩
          have hof1 : ∀ W x, PInv w w.heap.size ((l.take j).flatten ++ l[j]) W → W.cell? ⟨x, 0, none⟩ = some (.string (B ((l.take j).flatten ++ l[j]))) → Calls Tryd.prog 8 #[.slice (some ⟨x, 0, none⟩) 1 1] W fun e w' => e = .returned (.string (B (digest ((l.take j).flatten ++ l[j])))) ∧ PInv w w.heap.size ((l.take j).flatten ++ l[j]) w' ∧ Below W.heap.size W w' := fun W x hI hc => by
            have h := Of_calls W (some ⟨x, 0, none⟩) 1 [(l.take j).flatten ++ l[j]] (HOK.out.below hI.below) (by unfold maxLen; simp) (fun q hq => ⟨x, 0, rfl, lt_of_cell hc, by
              have : q = 0 := by simp at hq; omega
              subst this
              simpa using hc⟩) (by simp only [List.flatten_cons, List.flatten_nil, List.append_nil]; omega)
            rw [show ([(l.take j).flatten ++ l[j]] : List (List UInt8)).flatten = (l.take j).flatten ++ l[j] by simp] at h
            exact h.mono fun e w' ⟨he, hb⟩ => ⟨he, hI.next hb, hb⟩
          have hof2 : ∀ W, PInv w w.heap.size ((l.take j).flatten ++ l[j]) W → Calls Tryd.prog 8 #[.slice (some ⟨bb, off, none⟩) (j + 1) cap] W fun e w' => e = .returned (.string (B (digest ((l.take j).flatten ++ l[j])))) ∧ PInv w w.heap.size ((l.take j).flatten ++ l[j]) w' ∧ Below W.heap.size W w' := fun W hI => by
            have hr := (HA.out.below hI.below).take (j + 1)
            rw [← List.map_take] at hr
            have hll : (l.take (j + 1)).length = j + 1 := by rw [List.length_take]; omega
            have h := Of_calls W (some ⟨bb, off, none⟩) cap (l.take (j + 1)) (HOK.out.below hI.below) (by unfold maxLen; omega) hr (by rw [HF.out]; omega)
            rw [hll, HF.out] at h
            exact h.mono fun e w' ⟨he, hb⟩ => ⟨he, hI.next hb, hb⟩
          have hlenc : ∀ W, PInv w w.heap.size ((l.take j).flatten ++ l[j]) W → Calls Tryd.prog 13 #[.pointer (some ⟨w.heap.size, 0, none⟩)] W fun e w' => e = .returned (.int .u64 ((((l.take j).flatten ++ l[j]).length : Nat) : Int)) ∧ W = w' := fun W hI => Len_calls W w.heap.size _ hI.hash
          have HSUM := Lib.hid hsum
          have HOF1 := Lib.hid hof1
          have HOF2 := Lib.hid hof2
          have HLENC := Lib.hid hlenc
          clear hsum hof1 hof2 hlenc
          generalize l[j] = x at *
          generalize (l.take j).flatten = c0 at *
          go_wp2
          clear hcell2 hx1 hx2
          generalize c0 ++ x = cur at *
          have hI5 := HI5.out.next ((Below.refl _ w5).drew)
          have hcap := HCAP.out
          have hc0 : ¬ cap = 0 := by omega
          have t7 : (j : Int) + 1 ≤ (cap : Int) := by omega
          have t8 : (0 : Int) ≤ (j : Int) + 1 := by omega
          have hwj : IntKind.i64.wrap ((j : Int) + 1) = (j : Int) + 1 := by
            unfold IntKind.wrap
            simp [IntKind.signed, IntKind.bits]
            omega
          have hwl : IntKind.u64.wrap (cur.length : Int) = (cur.length : Int) := by
            unfold IntKind.wrap
            simp [IntKind.signed, IntKind.bits]
            omega
          generalize digest cur = d at *
          go_region_held3 (fun W => PInv w w.heap.size cur W)
            (first | assumption | exact PInv.next (by assumption) ((Below.refl _ _).alloc (Nat.le_refl _) _) | exact PInv.next (by assumption) ((Below.refl _ _).drew))
            (first
            | (go_at_call 12; refine (HSUM.out _ ?_).mono ?_; (first | assumption | exact PInv.next (by assumption) ((Below.refl _ _).alloc (Nat.le_refl _) _)); rintro e w6 ⟨rfl, hI, hk⟩)
            | (go_at_call 8; (with_reducible refine (HOF1.out _ _ ?_ ?_).mono ?_); (first | assumption | exact PInv.next (by assumption) ((Below.refl _ _).alloc (Nat.le_refl _) _)); (first | exact (cells_made _ #[_] _ 0 (by simp)).1 | exact keep_cell hk _ _ (cells_made _ #[_] _ 0 (by simp)).1); rintro e w6 ⟨rfl, hI, hk⟩)
            | (go_at_call 8; (with_reducible refine (HOF2.out _ ?_).mono ?_); assumption; rintro e w6 ⟨rfl, hI, hk⟩)
            | (go_at_call 13; refine (HLENC.out _ ?_).mono ?_; assumption; rintro e w6 ⟨rfl, rfl⟩))
          all_goals
            have HIE := Lib.hid hI
            clear hI hI5
            try clear hk
            go_wp2
            exact ⟨⟨j + 1, by go_num, by omega, by rw [HF.out], by rw [HF.out]; exact HIE.out⟩, by simp [intOf]; omega⟩
        · have t6 : ¬ (j : Int) < (l.length : Int) := by omega
          have HW2 := Lib.hid (works_calls wr (HOK.out.below HI.out.below))
          clear hj hlt
          generalize (l.take j).flatten = c0 at *
          go_wp2_with fail
          refine (Add_nil _ _).mono ?_
          rintro e w2 ⟨rfl, rfl⟩
          go_wp2_with fail
          refine (Sum_nil _).mono ?_
          rintro e w2 ⟨rfl, rfl⟩
          go_wp2_with fail
          refine (Len_nil _).mono ?_
          rintro e w2 ⟨rfl, rfl⟩
          go_wp2_with fail
          refine HW2.out.mono ?_
          rintro e w2 ⟨rfl, hb⟩
          have HB := Lib.hid (later HI.out.below hb)
          clear hb
          go_wp2
          go_ret
          exact ⟨rfl, HB.out⟩
end Go.Proofs.YtjhmpoekpambaaaDoor.Sha
