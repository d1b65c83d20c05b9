/-
  The net (layer 30): the sort's choice of a pivot at numbers of 64 bits: some place of the part; the row is only read.
  Condition: the row lies in one block, one cell each.
-/
import Derived.Test.YtplfnjpoikhmbaaNtRow
import Derived.Deep.CutRange
open Go Go.RowKit Go.Sort
namespace Go.Proofs.Ytplfnjpoikhmbaa.Nt
open Base

abbrev I64 : Int → Value := Value.int .i64
/-- From w to w' one cell was set to a count; draws else. -/
def CountTo (sb : Nat) (w w' : World) (s : Nat) : Prop := ∃ n, w' = putRow I64 (Sort.ahead w n) sb 0 #[(s : Int)]
section
variable {sb s s1 s2 blk off : Nat} {w w1 w2 : World} {d : Array Int}
theorem CountTo.refl (h : Holds I64 w sb 0 #[(s : Int)]) : CountTo sb w w s := ⟨0, by rw [ahead_zero, putRow_self _ _ _ _ _ h]⟩
theorem CountTo.trans (h : CountTo sb w w1 s1) (k : CountTo sb w1 w2 s2) : CountTo sb w w2 s2 := by
  obtain ⟨n, rfl⟩ := h
  obtain ⟨m, rfl⟩ := k
  exact ⟨n + m, putRow_ahead_putRow I64 w n m sb 0 _ _ rfl⟩
theorem CountTo.row (h : CountTo sb w w1 s1) (hne : sb ≠ blk) (hH : Holds U w blk off d) : Holds U w1 blk off d := by
  obtain ⟨n, rfl⟩ := h
  intro j hj
  exact ⟨by rw [cell?_putRow_other _ _ _ _ _ _ (.inl (Ne.symm hne))]; exact (hH j hj).1, by rw [frozen?_putRow]; exact (hH j hj).2⟩
theorem CountTo.one (h0 : Holds I64 w sb 0 #[(s : Int)]) (h : CountTo sb w w1 s1) : Holds I64 w1 sb 0 #[(s1 : Int)] := by
  obtain ⟨n, rfl⟩ := h
  exact holds_putRow I64 _ sb 0 _ _ (holds_ahead I64 w n sb 0 _ h0) rfl
theorem CountTo.drewN (h : CountTo sb w w1 s1) (m : Nat) : CountTo sb w (w1.drewN m) s1 := by
  obtain ⟨n, rfl⟩ := h
  exact ⟨n + m, by rw [← putRow_drewN]⟩
theorem CountTo.bump (h : CountTo sb w w1 s) (s' : Nat) {v : Value} (hv : v = .int .i64 (s' : Int)) : CountTo sb w (w1.setCell ⟨sb, 0, none⟩ v) s' := by
  obtain ⟨n, rfl⟩ := h
  subst hv
  have := putRow_set I64 (Sort.ahead w n) sb 0 #[(s : Int)] 0 (s' : Int) (by simp)
  exact ⟨n, this⟩
theorem one_cell (h : Holds I64 w sb 0 #[(s : Int)]) : w.cell? ⟨sb, 0, none⟩ = some (.int .i64 (s : Int)) ∧ w.frozen? ⟨sb, 0, none⟩ = false := by
  have := h 0 (by simp)
  simpa using this
theorem CountTo.out {o : Obj} (h : CountTo w.heap.size (w.alloc o) w1 s) (hH : Holds U w blk off d) : RowTo blk off w w1 d d := by
  obtain ⟨n, rfl⟩ := h
  have h0 : RowTo blk off w (Sort.ahead (w.alloc o) n) d d := ((RowTo.refl hH).alloc o).drewN n
  obtain ⟨s1, m, os, e⟩ := h0
  rw [e]
  exact ⟨rfl, m, _, mapBlock_grow_new (putRow U (Sort.ahead w m) blk off d) os w.heap.size (putCells I64 0 #[(s : Int)]) (by simp)⟩
end

set_option maxRecDepth 100000 in
set_option maxHeartbeats 4000000 in
theorem Order2_f (blk off cap a b sb s : Nat) (d : Array Int) (w : World) (hH : Holds U w blk off d) (hS : Holds I64 w sb 0 #[(s : Int)]) (ha : a < d.size) (hb : b < d.size) (hs : s < 1000) :
    Calls Try.prog 50 #[.slice (some ⟨blk, off, none⟩) d.size cap, .int .i64 a, .int .i64 b, .pointer (some ⟨sb, 0, none⟩)] w fun e w' => ∃ x y s' : Nat, e = .returned (.tuple #[.int .i64 (x : Int), .int .i64 (y : Int)]) ∧ (x = a ∧ y = b ∨ x = b ∧ y = a) ∧ s' ≤ s + 1 ∧ CountTo sb w w' s' := by
  obtain ⟨G, hG⟩ : ∃ G : Nat → Int, ∀ t, G t = d[t]! := ⟨fun t => d[t]!, fun _ => rfl⟩
  obtain ⟨cw, -⟩ := row_cells hH G hG
  have ca := cw a ha
  have cb := cw b hb
  obtain ⟨cs, fs⟩ := one_cell hS
  have HS := Lib.hid hS
  clear hG cw hH hS
  go_enter Try.func50, Try.ntmps50
  go_wp2
  go_quiet (first | (go_at_call 39; refine Calls.quiet_of_same (Less_f _ _ _)))
  have HC := Lib.hid ((CountTo.refl HS.out).drewN nq)
  have cs2 : (w.drewN nq).cell? ⟨sb, 0, none⟩ = some (.int .i64 (s : Int)) := cs
  have fs2 : (w.drewN nq).frozen? ⟨sb, 0, none⟩ = false := fs
  clear cs fs ca cb
  generalize w.drewN nq = w2 at *
  go_wp2
  · go_ret2
    exact ⟨b, a, s + 1, rfl, .inr ⟨rfl, rfl⟩, Nat.le_refl _, HC.out.bump (s + 1) (by simp)⟩
  · go_ret2
    exact ⟨a, b, s, rfl, .inl ⟨rfl, rfl⟩, by omega, HC.out⟩
theorem Median_f (blk off cap a b c sb s : Nat) (d : Array Int) (w : World) (hH : Holds U w blk off d) (hS : Holds I64 w sb 0 #[(s : Int)]) (hne : sb ≠ blk) (ha : a < d.size) (hb : b < d.size) (hc : c < d.size) (hs : s < 900) :
    Calls Try.prog 48 #[.slice (some ⟨blk, off, none⟩) d.size cap, .int .i64 a, .int .i64 b, .int .i64 c, .pointer (some ⟨sb, 0, none⟩)] w fun e w' => ∃ x s' : Nat, e = .returned (.int .i64 (x : Int)) ∧ (x = a ∨ x = b ∨ x = c) ∧ s' ≤ s + 3 ∧ CountTo sb w w' s' := by
  have HO := Lib.hid (fun (a b s : Nat) w1 hH hS ha hb hs => Order2_f blk off cap a b sb s d w1 hH hS ha hb hs)
  have HH := Lib.hid hH
  have HS := Lib.hid hS
  clear hH hS
  go_enter Try.func48, Try.ntmps48
  go_wp2_with fail
  have h1 := HO.out a b s w HH.out HS.out ha hb (by omega)
  with_reducible refine h1.mono ?_
  clear h1
  rintro e w1 ⟨x1, y1, s1, rfl, hxy1, hs1, hc1⟩
  have HC1 := Lib.hid hc1
  have hx1 : x1 < d.size := by omega
  have hy1 : y1 < d.size := by omega
  clear hc1
  go_wp2_with fail
  have h2 := HO.out y1 c s1 w1 (HC1.out.row hne HH.out) (HC1.out.one HS.out) hy1 hc (by omega)
  with_reducible refine h2.mono ?_
  clear h2
  rintro e w2 ⟨x2, y2, s2, rfl, hxy2, hs2, hc2⟩
  have HC2 := Lib.hid (HC1.out.trans hc2)
  have hx2 : x2 < d.size := by omega
  clear hc2
  go_wp2_with fail
  have h3 := HO.out x1 x2 s2 w2 (HC2.out.row hne HH.out) (HC2.out.one HS.out) hx1 hx2 (by omega)
  with_reducible refine h3.mono ?_
  clear h3
  rintro e w3 ⟨x3, y3, s3, rfl, hxy3, hs3, hc3⟩
  have HC3 := Lib.hid (HC2.out.trans hc3)
  clear hc3
  go_wp2
  go_ret
  exact ⟨y3, s3, rfl, by omega, by omega, HC3.out⟩
theorem MedAdj_f (blk off cap a sb s : Nat) (d : Array Int) (w : World) (hH : Holds U w blk off d) (hS : Holds I64 w sb 0 #[(s : Int)]) (hne : sb ≠ blk) (ha : 1 ≤ a) (ha2 : a + 1 < d.size) (hs : s < 900) (hsz : d.size < 4611686018427387904) :
    Calls Try.prog 47 #[.slice (some ⟨blk, off, none⟩) d.size cap, .int .i64 a, .pointer (some ⟨sb, 0, none⟩)] w fun e w' => ∃ x s' : Nat, e = .returned (.int .i64 (x : Int)) ∧ a ≤ x + 1 ∧ x ≤ a + 1 ∧ s' ≤ s + 3 ∧ CountTo sb w w' s' := by
  have HM := Lib.hid (Median_f blk off cap (a - 1) a (a + 1) sb s d w hH hS hne (by omega) (by omega) ha2 hs)
  have e1 : ((a - 1 : Nat) : Int) = (a : Int) - 1 := by omega
  have e2 : ((a + 1 : Nat) : Int) = (a : Int) + 1 := by omega
  rw [e1, e2] at HM
  clear hH hS e1 e2
  go_enter Try.func47, Try.ntmps47
  go_wp2_with fail
  with_reducible refine HM.out.mono ?_
  rintro e w3 ⟨x, s', rfl, hx, hs', hc⟩
  go_wp2
  go_ret
  exact ⟨x, s', rfl, by omega, by omega, hs', hc⟩

set_option maxRecDepth 100000 in
set_option maxHeartbeats 8000000 in
theorem Pivot_f (blk off cap a b : Nat) (d : Array Int) (w : World) (hH : Holds U w blk off d) (hblk : blk < w.heap.size) (hab : a < b) (hb : b ≤ d.size) (hsz : d.size < 4611686018427387904) :
    Calls Try.prog 36 #[.slice (some ⟨blk, off, none⟩) d.size cap, .int .i64 a, .int .i64 b] w fun e w' => ∃ p h : Nat, e = .returned (.tuple #[.int .i64 (p : Int), .int .i64 (h : Int)]) ∧ a ≤ p ∧ p < b ∧ h ≤ 2 ∧ RowTo blk off w w' d d := by
  obtain ⟨L, hL⟩ : ∃ L : Nat, b = a + L := ⟨b - a, by omega⟩
  subst hL
  have eS : (a : Int) + (L : Int) - (a : Int) = (L : Int) := by omega
  obtain ⟨q, hq⟩ : ∃ q : Nat, q = L / 4 := ⟨_, rfl⟩
  have e1 : (L : Int).tdiv 4 = (q : Int) := by rw [Int.tdiv_eq_ediv_of_nonneg (by omega)]; omega
  have e0 : (L : Int) / 4 = (q : Int) := by omega
  have hq4 : 4 * q ≤ L := by omega
  have hq5 : L < 4 * q + 4 := by omega
  have HH := Lib.hid hH
  have hne : w.heap.size ≠ blk := by omega
  have hH2 : Holds U (w.alloc (.cells #[.int .i64 0] 3)) blk off d := by rw [alloc_eq_grow]; exact holds_grow _ _ _ _ _ _ hblk hH
  have hS2 : Holds I64 (w.alloc (.cells #[.int .i64 0] 3)) w.heap.size 0 #[((0 : Nat) : Int)] := fun j hj => by
    obtain rfl : j = 0 := by simpa using hj
    simp
  have HH2 := Lib.hid hH2
  have HS2 := Lib.hid hS2
  have HOUT := Lib.hid (fun (w1 : World) (s : Nat) (h : CountTo w.heap.size (w.alloc (.cells #[.int .i64 0] 3)) w1 s) => CountTo.out h HH.out)
  have HM := Lib.hid (fun (x y z s : Nat) (w1 : World) (h : CountTo w.heap.size (w.alloc (.cells #[.int .i64 0] 3)) w1 s) hx hy hz hs => Median_f blk off cap x y z w.heap.size s d w1 (h.row hne HH2.out) (h.one HS2.out) hne hx hy hz hs)
  have HA := Lib.hid (fun (x s : Nat) (w1 : World) (h : CountTo w.heap.size (w.alloc (.cells #[.int .i64 0] 3)) w1 s) hx hx2 hs => MedAdj_f blk off cap x w.heap.size s d w1 (h.row hne HH2.out) (h.one HS2.out) hne hx hx2 hs hsz)
  have HONE := Lib.hid (fun (s : Nat) (w1 : World) (h : CountTo w.heap.size (w.alloc (.cells #[.int .i64 0] 3)) w1 s) => one_cell (h.one HS2.out))
  have HC0 := Lib.hid (CountTo.refl hS2)
  have hL0 : 0 < L := by omega
  clear hH hH2 hS2 hq hab
  go_enter Try.func36, Try.ntmps36
  by_cases h8 : 8 ≤ L
  · have t8 : (8 : Int) ≤ (L : Int) := by omega
    by_cases h50 : 50 ≤ L
    · have t50 : (50 : Int) ≤ (L : Int) := by omega
      have e2 : ((a + q : Nat) : Int) = (a : Int) + (q : Int) := by omega
      have e3 : ((a + q * 2 : Nat) : Int) = (a : Int) + (q : Int) * 2 := by omega
      have e4 : ((a + q * 3 : Nat) : Int) = (a : Int) + (q : Int) * 3 := by omega
      have C1 := Lib.hid (e2 ▸ HA.out (a + q) 0 _ HC0.out (by omega) (by omega) (by omega))
      have C2 := Lib.hid (e3 ▸ HA.out (a + q * 2))
      have C3 := Lib.hid (e4 ▸ HA.out (a + q * 3))
      clear e2 e3 e4
      go_wp2_with fail
      with_reducible refine C1.out.mono ?_
      rintro e w1 ⟨x1, s1, rfl, hl1, hu1, hs1, hc1⟩
      have HC1 := Lib.hid (HC0.out.trans hc1)
      clear hc1
      go_wp2_with fail
      have h2 := C2.out s1 w1 HC1.out (by omega) (by omega) (by omega)
      with_reducible refine h2.mono ?_
      clear h2
      rintro e w2 ⟨x2, s2, rfl, hl2, hu2, hs2, hc2⟩
      have HC2 := Lib.hid (HC1.out.trans hc2)
      clear hc2
      go_wp2_with fail
      have h3 := C3.out s2 w2 HC2.out (by omega) (by omega) (by omega)
      with_reducible refine h3.mono ?_
      clear h3
      rintro e w3 ⟨x3, s3, rfl, hl3, hu3, hs3, hc3⟩
      have HC3 := Lib.hid (HC2.out.trans hc3)
      clear hc3
      go_wp2_with fail
      have h4 := HM.out x1 x2 x3 s3 w3 HC3.out (by omega) (by omega) (by omega) (by omega)
      with_reducible refine h4.mono ?_
      clear h4
      rintro e w4 ⟨x4, s4, rfl, hx4, hs4, hc4⟩
      have HCZ := Lib.hid (HC3.out.trans hc4)
      have hcz := (HONE.out _ _ HCZ.out).1
      clear hc4
      go_wp2
      all_goals
        go_ret2
        exact ⟨x4, _, rfl, by omega, by omega, by decide, HOUT.out _ _ HCZ.out⟩
    · have t50 : ¬ (50 : Int) ≤ (L : Int) := by omega
      have e2 : ((a + q : Nat) : Int) = (a : Int) + (q : Int) := by omega
      have e3 : ((a + q * 2 : Nat) : Int) = (a : Int) + (q : Int) * 2 := by omega
      have e4 : ((a + q * 3 : Nat) : Int) = (a : Int) + (q : Int) * 3 := by omega
      have C1 := Lib.hid (HM.out (a + q) (a + q * 2) (a + q * 3) 0 _ HC0.out (by omega) (by omega) (by omega) (by omega))
      rw [e2, e3, e4] at C1
      clear e2 e3 e4
      go_wp2_with fail
      with_reducible refine C1.out.mono ?_
      rintro e w4 ⟨x4, s4, rfl, hx4, hs4, hc4⟩
      have HCZ := Lib.hid (HC0.out.trans hc4)
      have hcz := (HONE.out _ _ HCZ.out).1
      clear hc4
      go_wp2
      all_goals
        go_ret2
        exact ⟨x4, _, rfl, by omega, by omega, by decide, HOUT.out _ _ HCZ.out⟩
  · have t8 : ¬ (8 : Int) ≤ (L : Int) := by omega
    go_wp2_with fail
    go_ret2
    exact ⟨a + q * 2, 1, by congr 3 <;> go_num, by omega, by omega, by decide, HOUT.out _ _ HC0.out⟩
end Go.Proofs.Ytplfnjpoikhmbaa.Nt
