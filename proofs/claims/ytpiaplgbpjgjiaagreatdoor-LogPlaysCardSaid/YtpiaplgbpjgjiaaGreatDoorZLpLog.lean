/-
  The document's log (layer 8): the walks of Len, Sync and Append. Conditions: the disk and the log are the call's own; no record is longer than a frame may be.
-/
import Derived.Test.YtpiaplgbpjgjiaaGreatDoorZLpPair
import Derived.Test.YtpiaplgbpjgjiaaGreatDoorZLpRefC
open Go Go.RowKit
namespace Go.Proofs.YtpiaplgbpjgjiaaGreatDoor.Lp
open Base Mp Dk Frame Lg

/-- The document's log beside its disk, each block told. -/
structure GX (w0 w : World) (rb gb : Nat) (v : Value) (D : DiskD) (L : LogD) (rs : List Key) (R : Nat → Prop) : Prop where
  dk : ∃ g cap o, RDAt w rb g cap D o R
  cells : CellsAt w gb 5 (gCell rb v L)
  far : ¬ R gb
  row : w.ownsRow w0.heap.size 9 1 v rs.length (strs rs)
  apart : ∀ k, v.ownBlock = some k → ¬ R k ∧ k ≠ gb
  told : Told L rs
section
variable {w0 w w' w2 w3 : World} {rb gb : Nat} {v v' : Value} {D : DiskD} {L L' : LogD} {rs ys : List Key} {R : Nat → Prop}
theorem GX.old (h : GX w0 w rb gb v D L rs R) : ∀ i, R i → i < w.heap.size := by
  obtain ⟨g, cap, o, h1⟩ := h.dk
  exact h1.old
theorem GX.gl (h : GX w0 w rb gb v D L rs R) : gb < w.heap.size := h.cells.lt (by omega)
theorem GX.later (h : GX w0 w rb gb v D L rs R) (hb : Below w.heap.size w w') : GX w0 w' rb gb v D L rs R := by
  obtain ⟨g, cap, o, h1⟩ := h.dk
  exact ⟨⟨g, cap, o, h1.later hb⟩, h.cells.below hb h.gl, h.far, own_next h.row hb, h.apart, h.told⟩
theorem GX.disk {w1 : World} {r : DiskD × Int} {e : Ending} (h : GX w0 w rb gb v D L rs R) (hb : Below w.heap.size w w1) (hp : RPost w1 rb R r e w') : GX w0 w' rb gb v r.1 L rs (More R w w') ∧ Kept R w w' := by
  obtain ⟨-, g, cap, o, h1, k1⟩ := hp
  have hg := h.gl
  have hk : Kept R w w' := (Kept.of_below (T := R) hb).trans k1 (fun _ h => .inl h)
  have hz := hb.size
  refine ⟨⟨⟨g, cap, o, h1.wide (fun i hi => hi.imp id fun h => ⟨by omega, h.2⟩) fun i hi => ?_⟩, h.cells.kept hk hg h.far, ?_, own_kept h.row hk (fun k hk ht => (h.apart k hk).1 ht), fun k hk => ⟨?_, (h.apart k hk).2⟩, h.told⟩, hk⟩
  · rcases hi with hi | hi
    · exact Nat.lt_of_lt_of_le (h.old i hi) hk.size
    · exact hi.2
  · rintro (hi | hi)
    · exact h.far hi
    · omega
  · have := h.row.lt k hk
    rintro (hi | hi)
    · exact (h.apart k hk).1 hi
    · omega
theorem GX.turn (h : GX w0 w rb gb v D L rs R) (hk : Kept (fun i => i = gb) w w') (hc : CellsAt w' gb 5 (gCell rb v L')) (ht : Told L' rs) : GX w0 w' rb gb v D L' rs R := by
  obtain ⟨g, cap, o, h1⟩ := h.dk
  exact ⟨⟨g, cap, o, h1.next hk fun i hi hr => h.far (by rw [← show i = gb from hi]; exact hr)⟩, hc, h.far, own_kept h.row hk (fun k hk ht => (h.apart k hk).2 ht), h.apart, ht⟩
/-- The row grew, and is stored. -/
theorem GX.grow (h : GX w0 w rb gb v D L rs R) (hk : Kept (fun i => v.ownBlock = some i) w w') (ho : w'.ownsRow w0.heap.size 9 1 v' ys.length (strs ys)) (hv : ∀ k, v'.ownBlock = some k → v.ownBlock = some k ∨ w.heap.size ≤ k) (ht : Told L' ys) (hs : L'.sure = L.sure) (hbr : L'.broken = L.broken) : GX w0 (w'.setCell ⟨gb, 2, none⟩ v') rb gb v' D L' ys R := by
  obtain ⟨g, cap, o, h1⟩ := h.dk
  have hg := h.gl
  have hk2 : Kept (fun i => i = gb) w' (w'.setCell ⟨gb, 2, none⟩ v') := Kept.setCell (T := fun i => i = gb) (Kept.refl _ w') (.inl rfl) _
  have hR : ∀ k, v'.ownBlock = some k → ¬ R k ∧ k ≠ gb := fun k hk' => by
    rcases hv k hk' with h3 | h3
    · exact h.apart k h3
    · exact ⟨fun hr => by have := h.old k hr; omega, by omega⟩
  refine ⟨⟨g, cap, o, (h1.next hk fun i hi => (h.apart i hi).1).next hk2 fun i hi hr => h.far (by rw [← show i = gb from hi]; exact hr)⟩, ?_, h.far, own_kept ho hk2 (fun k hk ht => (hR k hk).2 ht), hR, ht⟩
  refine (CellsAt.set (h.cells.kept hk hg (fun e => (h.apart gb e).2 rfl)) (i := 2) (by omega) v').congr fun j hj => ?_
  have : j = 0 ∨ j = 1 ∨ j = 2 ∨ j = 3 ∨ j = 4 := by omega
  rcases this with rfl | rfl | rfl | rfl | rfl
  · rfl
  · rfl
  · rfl
  · show Value.int .i64 (L.sure : Int) = Value.int .i64 (L'.sure : Int)
    rw [hs]
  · show Value.bool L.broken = Value.bool L'.broken
    rw [hbr]
end
def GPost (w0 w : World) (rb gb : Nat) (R : Nat → Prop) (v : Value) (r : DiskD × LogD × Int) (rs : List Key) (e : Ending) (w' : World) : Prop :=
  e = .returned (.int .i64 r.2.2) ∧ ∃ v' R', (∀ i, R i → R' i) ∧ (∀ i, R' i → More R w w' i) ∧ GX w0 w' rb gb v' r.1 r.2.1 rs R' ∧ (∀ k, v'.ownBlock = some k → v.ownBlock = some k ∨ w.heap.size ≤ k) ∧ Kept (fun i => R i ∨ i = gb ∨ v.ownBlock = some i) w w'
section
variable {w0 w w' w2 w3 : World} {rb gb : Nat} {v v' : Value} {D D' : DiskD} {L L' : LogD} {rs ys : List Key} {R : Nat → Prop}
theorem GPost.same {r : DiskD × LogD × Int} {c : Int} (h : GX w0 w rb gb v D L rs R) (hr : r = (D, L, c)) (hk : Below w.heap.size w w') : GPost w0 w rb gb R v r rs (.returned (.int .i64 c)) w' := by
  subst hr
  exact ⟨rfl, v, R, fun i hi => hi, fun i hi => .inl hi, h.later hk, fun k hk => .inl hk, Kept.of_below hk⟩
theorem GPost.made {r : DiskD × LogD × Int} {c : Int} {X : Nat → Prop} (h : GX w0 w3 rb gb v' D' L' rs (More R w w2)) (hr : r = (D', L', c)) (k2 : Kept R w w2) (k3 : Kept X w2 w3) (hX : ∀ i, X i → i = gb ∨ v.ownBlock = some i) (hv : ∀ k, v'.ownBlock = some k → v.ownBlock = some k ∨ w.heap.size ≤ k) : GPost w0 w rb gb R v r rs (.returned (.int .i64 c)) w3 := by
  subst hr
  exact ⟨rfl, v', More R w w2, fun i hi => .inl hi, fun i hi => hi.imp id (fun h => ⟨h.1, Nat.lt_of_lt_of_le h.2 k3.size⟩), h, hv,
    (k2.mono (T' := fun i => R i ∨ i = gb ∨ v.ownBlock = some i) fun i hi => .inl hi).trans (k3.mono (T' := fun i => R i ∨ i = gb ∨ v.ownBlock = some i) fun i hi => .inr (hX i hi)) (fun _ h => .inl h)⟩
end
set_option maxRecDepth 100000 in
set_option maxHeartbeats 1000000 in
theorem RGLen_f {w : World} {base rb gb : Nat} {v : Value} {L : LogD} {rs : List Key} (h : CellsAt w gb 5 (gCell rb v L)) (ho : w.ownsRow base 9 1 v rs.length (strs rs)) (ht : Told L rs) (hb : L.size ≤ 1099511627776) : Calls Tryz.prog 19 #[.pointer (some ⟨gb, 0, none⟩)] w fun e w' => e = .returned (.int .i64 (L.size : Int)) ∧ w' = w := by
  obtain ⟨p, cap, rfl, hl, hc⟩ := own_cells ho
  have c2 : w.cell? ⟨gb, 2, none⟩ = some (.slice p rs.length cap) := (h 2 (by omega)).1
  have HC := Lib.hid hc
  have HSZ := Lib.hid ht.size
  have HB := Lib.hid hb
  have hcnt : rs.length ≤ 1099511627776 := by have := puts_len rs; rw [← ht.size] at this; omega
  clear h ho ht hc hl hb
  go_enter Tryz.func19, Tryz.ntmps19
  go_wp2
  go_loopw [3, 4] (fun n u wr => ∃ k : Nat, n = .int .i64 (((puts (rs.take k)).length : Nat) : Int) ∧ u = .int .i64 (k : Int) ∧ k ≤ rs.length ∧ wr = w) (fun _ u _ => rs.length - (intOf u).toNat)
  case atStart => exact ⟨0, rfl, rfl, Nat.zero_le _, rfl⟩
  case round =>
    obtain ⟨k, rfl, rfl, hk, rfl⟩ := hrel
    by_cases hkl : k < rs.length
    · obtain ⟨g, rfl, -, -, hx⟩ := HC.out k (by rw [strs_length]; exact hkl)
      rw [strs_at _ _ hkl] at hx
      have HS := Lib.hid (show (puts (rs.take (k + 1))).length = (puts (rs.take k)).length + 8 + rs[k].length by rw [puts_take_succ rs k hkl, List.length_append, put_length]; omega)
      have hle : (puts (rs.take (k + 1))).length ≤ 1099511627776 := by
        have := puts_take_le rs (k + 1)
        rw [← HSZ.out] at this
        have := HB.out
        omega
      rw [HS.out] at hle
      have t1 : (k : Int) < (rs.length : Int) := by omega
      have t2 : 0 ≤ (k : Int) := by omega
      have HK := Lib.hid hkl
      generalize (puts (rs.take k)).length = nn at *
      generalize rs[k] = x at *
      clear hkl
      go_wp2
      go_roundw
      case rel => exact ⟨k + 1, by rw [HS.out]; go_num, by go_num, HK.out, by first | rfl | trivial⟩
      case measure => have := HK.out; simp [intOf]; omega
    · obtain rfl : k = rs.length := by omega
      have t1 : ¬ (rs.length : Int) < (rs.length : Int) := by omega
      clear hkl hk
      rw [List.take_length, ← HSZ.out]
      go_wp2
      go_ret
      exact ⟨rfl, rfl⟩
theorem sync_not6 (D : DiskD) (n : Key) : (syncD D n).2 ≠ 6 := by
  unfold syncD opD
  split
  · show (70 : Int) ≠ 6
    decide
  · split <;> simp
set_option maxRecDepth 100000 in
set_option maxHeartbeats 1000000 in
theorem RGSync_f {w0 w : World} {rb gb : Nat} {v : Value} {D : DiskD} {L : LogD} {rs : List Key} {R : Nat → Prop} (h : GX w0 w rb gb v D L rs R) : Calls Tryz.prog 13 #[.pointer (some ⟨gb, 0, none⟩)] w (GPost w0 w rb gb R v (keepL D L) rs) := by
  have H := Lib.hid h
  obtain ⟨p, cp, rfl, -, -⟩ := own_cells h.row
  obtain ⟨g, cap, o, hdk⟩ := h.dk
  have c0 : w.cell? ⟨gb, 0, none⟩ = some (.pointer (some ⟨rb, 0, none⟩)) := (h.cells 0 (by omega)).1
  have c1 : w.cell? ⟨gb, 1, none⟩ = some (.string (B nA)) := (h.cells 1 (by omega)).1
  have c4 : w.cell? ⟨gb, 4, none⟩ = some (.bool L.broken) := (h.cells 4 (by omega)).1
  by_cases hb : L.broken = true
  · have HE := Lib.hid (show keepL D L = (D, L, 3) by unfold keepL; rw [if_pos hb])
    rw [hb] at c4
    clear h hb hdk
    go_enter Tryz.func13, Tryz.ntmps13
    go_wp2
    go_ret
    exact GPost.same H.out HE.out (Below.refl _ _)
  · have hb2 : L.broken = false := by simpa using hb
    rw [hb2] at c4
    have HS := Lib.hid (RSync_f hdk.drew)
    have HT := Lib.hid h.told
    by_cases hc : (syncD D nA).2 = 0
    · have HE := Lib.hid (show keepL D L = ((syncD D nA).1, { L with sure := L.count }, 0) by unfold keepL; rw [if_neg hb, h.told.name, if_pos hc])
      have HC := Lib.hid hc
      clear h hb hb2 hdk hc
      go_enter Tryz.func13, Tryz.ntmps13
      go_wp2_with fail
      go_still_tail 8, (by kernel_rfl)
      change wpList _ _ _ _ _ w.drew
      go_wp2_with fail
      with_reducible refine HS.out.mono ?_
      rintro e w2 hp
      obtain ⟨h2, k2⟩ := H.out.disk (Below.refl w.heap.size w).drew hp
      obtain ⟨he, -⟩ := hp
      rw [HC.out] at he
      subst he
      have d2 : w2.cell? ⟨gb, 2, none⟩ = some (.slice p rs.length cp) := (h2.cells 2 (by omega)).1
      have f3 := (h2.cells 3 (by omega)).2
      have d3 := (h2.cells 3 (by omega)).1
      simp only [gCell] at d3
      have H2 := Lib.hid h2
      have K2 := Lib.hid k2
      clear h2 k2 HS c0 c1 c4
      go_wp2
      go_ret
      have hk : Kept (fun i => i = gb) w2 (w2.setCell ⟨gb, 3, none⟩ (.int .i64 (rs.length : Int))) := Kept.setCell (T := fun i => i = gb) (Kept.refl _ w2) (.inl rfl) _
      refine GPost.made (w2 := w2) (v' := .slice p rs.length cp) (H2.out.turn (L' := { L with sure := L.count }) hk ((CellsAt.set H2.out.cells (i := 3) (by omega) (.int .i64 (rs.length : Int))).congr fun j hj => ?_) ⟨HT.out.size, HT.out.count, HT.out.name⟩) HE.out K2.out hk (fun i hi => .inl hi) (fun k hk => .inl hk)
      have : j = 0 ∨ j = 1 ∨ j = 2 ∨ j = 3 ∨ j = 4 := by omega
      rcases this with rfl | rfl | rfl | rfl | rfl
      · rfl
      · rfl
      · rfl
      · show Value.int .i64 (rs.length : Int) = Value.int .i64 (L.count : Int)
        rw [HT.out.count]
      · rfl
    · have HE := Lib.hid (show keepL D L = ((syncD D nA).1, { L with broken := true }, (syncD D nA).2) by
        unfold keepL
        rw [if_neg hb, h.told.name, if_neg hc]
        unfold toldL
        rw [if_pos ⟨hc, sync_not6 D nA⟩, h.told.name])
      generalize hcc : (syncD D nA).2 = cc at *
      have hcb : (cc == 0) = false := by simpa using hc
      clear h hb hb2 hdk hc
      go_enter Tryz.func13, Tryz.ntmps13
      go_wp2_with fail
      go_still_tail 8, (by kernel_rfl)
      change wpList _ _ _ _ _ w.drew
      go_wp2_with fail
      with_reducible refine HS.out.mono ?_
      rintro e w2 hp
      obtain ⟨h2, k2⟩ := H.out.disk (Below.refl w.heap.size w).drew hp
      obtain ⟨he, -⟩ := hp
      rw [hcc] at he
      subst he
      have f4 := (h2.cells 4 (by omega)).2
      have d4 := (h2.cells 4 (by omega)).1
      simp only [gCell] at d4
      have H2 := Lib.hid h2
      have K2 := Lib.hid k2
      clear h2 k2 HS c0 c1 c4 hcc
      go_wp2
      go_ret
      have hk : Kept (fun i => i = gb) w2 (w2.setCell ⟨gb, 4, none⟩ (.bool true)) := Kept.setCell (T := fun i => i = gb) (Kept.refl _ w2) (.inl rfl) _
      refine GPost.made (w2 := w2) (v' := .slice p rs.length cp) (H2.out.turn (L' := { L with broken := true }) hk ((CellsAt.set H2.out.cells (i := 4) (by omega) (.bool true)).congr fun j hj => ?_) ⟨HT.out.size, HT.out.count, HT.out.name⟩) HE.out K2.out hk (fun i hi => .inl hi) (fun k hk => .inl hk)
      have : j = 0 ∨ j = 1 ∨ j = 2 ∨ j = 3 ∨ j = 4 := by omega
      rcases this with rfl | rfl | rfl | rfl | rfl <;> rfl
set_option maxRecDepth 100000 in
/-- 'append(l, xs...)', a row of texts that lies apart. -/
theorem append_keys (W : World) (base : Nat) (hb : base ≤ W.heap.size) (v : Value) (rs : List Key) (ho : W.ownsRow base 9 1 v rs.length (strs rs)) (p : Option Addr) (cap : Nat) (xs : List Key) (hx : RowArg W p (strs xs)) (h0 : xs ≠ []) (hm : rs.length + xs.length ≤ 1099511627776) :
    ∃ g cap' w', (Builtin.append_ #[33, 33] 33 #[v, .slice p xs.length cap]).run Tryz.prog W = .ok (.slice (some ⟨g, 0, none⟩) (rs.length + xs.length) cap') w' ∧ w'.ownsRow base 9 1 (.slice (some ⟨g, 0, none⟩) (rs.length + xs.length) cap') (rs ++ xs).length (strs (rs ++ xs)) ∧ Kept (fun i => v.ownBlock = some i) W w' ∧ ∀ k, (Value.slice (some ⟨g, 0, none⟩) (rs.length + xs.length) cap').ownBlock = some k → v.ownBlock = some k ∨ W.heap.size ≤ k := by
  obtain ⟨i0, hi, hz0, hz1, hz2⟩ := info_parts infoKey
  have hn : 0 < xs.length := List.length_pos_iff.2 h0
  obtain ⟨b0, o0, rfl, _, _⟩ := hx 0 (by rw [strs_length]; exact hn)
  obtain ⟨g, cap', w', h1, h2, h3, h4, h5⟩ := run_append_lies (P := Tryz.prog) W 33 33 base 9 i0 _ 1 16 Tryz.underlying33 hi hz0 hz1 hz2 rfl (by decide)
    v rs.length (strs rs) ho ⟨b0, o0, none⟩ xs.length cap (strs xs) (by rw [strs_length]; omega) (fun j u hj => by
      rcases Nat.lt_or_ge j (strs xs).length with hlj | hlj
      · obtain ⟨b1, o1, he, _, hc⟩ := hx j hlj
        injection he with he
        injection he with e1 e2
        subst e1 e2
        rw [show (⟨b0, o0, none⟩ : Addr).add j = ⟨b0, o0 + j, none⟩ by simp [Addr.add], hc, ← hj, List.getElem?_eq_getElem hlj]
      · rw [List.getElem?_eq_none hlj] at hj; cases hj) (by intro u hu; unfold strs at hu; obtain ⟨k, _, rfl⟩ := List.mem_map.1 hu; rfl) hn (by unfold maxLen; omega) (by omega) hb _ rfl
  have hb0 : Below 0 W w' := (Below.refl 0 W).grown h3 (Nat.zero_le _) (fun _ _ => Nat.zero_le _)
  refine ⟨g, cap', w', h1, ?_, ⟨hb0.os, hb0.tape, hb0.output, hb0.size, fun k hk hn => h3.block k hk (fun e => hn e.symm)⟩, fun k hk => ?_⟩
  · rw [List.length_append, show strs (rs ++ xs) = strs rs ++ strs xs by simp [strs]]
    exact h2
  · injection hk with hk
    subst hk
    rcases h4 with h4 | h4
    · exact .inl h4
    · exact .inr (Nat.le_of_eq h4.symm)
/-- The records behind an append. -/
def after (D : DiskD) (L : LogD) (rs xs : List Key) : List Key := if (putRs D L xs).2.2 = 0 ∧ L.broken = false then rs ++ xs else rs
/-- What the document's Append asks. -/
structure GPutOk (w : World) (p : Option Addr) (xs : List Key) (L : LogD) : Prop where
  row : RowArg w p (strs xs)
  short : ∀ r ∈ xs, r.length ≤ 1048576
  sum : (puts xs).length ≤ 549755813888
  size : L.size ≤ 549755813888
set_option maxRecDepth 100000 in
set_option maxHeartbeats 2000000 in
theorem RGAppend0_f {w0 w : World} {rb gb : Nat} {v : Value} {D : DiskD} {L : LogD} {rs : List Key} {R : Nat → Prop} (h : GX w0 w rb gb v D L rs R) (p : Option Addr) (cap : Nat) : Calls Tryz.prog 11 #[.pointer (some ⟨gb, 0, none⟩), .slice p 0 cap] w (GPost w0 w rb gb R v (putRs D L []) rs) := by
  have H := Lib.hid h
  have c4 : w.cell? ⟨gb, 4, none⟩ = some (.bool L.broken) := (h.cells 4 (by omega)).1
  by_cases hb : L.broken = true
  · have HE := Lib.hid (show putRs D L [] = (D, L, 3) by unfold putRs; rw [if_pos hb])
    rw [hb] at c4
    clear h hb
    go_enter Tryz.func11, Tryz.ntmps11
    go_wp2
    go_ret
    exact GPost.same H.out HE.out (Below.refl _ _)
  · have HE := Lib.hid (show putRs D L [] = (D, L, 0) by unfold putRs; rw [if_neg hb, if_pos rfl])
    have hb2 : L.broken = false := by simpa using hb
    rw [hb2] at c4
    clear h hb hb2
    go_enter Tryz.func11, Tryz.ntmps11
    go_wp2
    go_loopw [5, 6] (fun s u wr => s = .string ⟨#[]⟩ ∧ u = .int .i64 0 ∧ wr = w) (fun _ _ _ => 0)
    case atStart => exact ⟨rfl, rfl, rfl⟩
    case round =>
      obtain ⟨rfl, rfl, rfl⟩ := hrel
      go_wp2
      go_ret
      exact GPost.same H.out HE.out (Below.refl _ _)
set_option maxRecDepth 100000 in
set_option maxHeartbeats 2000000 in
theorem RGAppend1_f {w0 w : World} {rb gb : Nat} {v : Value} {D : DiskD} {L : LogD} {rs : List Key} {R : Nat → Prop} (h : GX w0 w rb gb v D L rs R) (p : Option Addr) (cap : Nat) (xs : List Key) (hp : GPutOk w p xs L) (hf : ∀ a, p = some a → ¬ R a.block) (h0 : xs ≠ []) (hw : w0.heap.size ≤ w.heap.size) : Calls Tryz.prog 11 #[.pointer (some ⟨gb, 0, none⟩), .slice p xs.length cap] w (GPost w0 w rb gb R v (putRs D L xs) (after D L rs xs)) := by
  have H := Lib.hid h
  have c4 : w.cell? ⟨gb, 4, none⟩ = some (.bool L.broken) := (h.cells 4 (by omega)).1
  by_cases hb : L.broken = true
  · have HE := Lib.hid (show putRs D L xs = (D, L, 3) by unfold putRs; rw [if_pos hb])
    have HA := Lib.hid (show after D L rs xs = rs by unfold after; rw [if_neg (by rw [hb]; simp)])
    rw [hb] at c4
    clear h hb h0
    go_enter Tryz.func11, Tryz.ntmps11
    go_wp2
    go_ret
    rw [HA.out]
    exact GPost.same H.out HE.out (Below.refl _ _)
  have hb2 : L.broken = false := by simpa using hb
  rw [hb2] at c4
  have HP := Lib.hid hp
  have HE0 := Lib.hid (show putRs D L xs = (if (appendD D nA (puts xs)).2 = 0 then ((appendD D nA (puts xs)).1, { L with size := L.size + (puts xs).length, count := L.count + xs.length }, 0) else ((appendD D nA (puts xs)).1, toldL L (appendD D nA (puts xs)).2, (appendD D nA (puts xs)).2)) by
    unfold putRs; rw [if_neg hb, if_neg h0, h.told.name])
  have HB2 := Lib.hid hb2
  have H0 := Lib.hid h0
  have hx1 : xs.length ≤ 549755813888 := Nat.le_trans (puts_len xs) hp.sum
  have hx0 : 0 < xs.length := List.length_pos_iff.2 h0
  have HRL := Lib.hid (show rs.length ≤ 549755813888 by have := puts_len rs; rw [← h.told.size] at this; have := hp.size; omega)
  have HW := Lib.hid hw
  have HF := Lib.hid hf
  clear h hb hb2 hp h0 hw hf
  go_enter Tryz.func11, Tryz.ntmps11
  go_wp2
  go_loopw [5, 6] (fun s u wr => ∃ k : Nat, s = .string (B (puts (xs.take k))) ∧ u = .int .i64 (k : Int) ∧ k ≤ xs.length ∧ Below w.heap.size w wr) (fun _ u _ => xs.length - (intOf u).toNat)
  case atStart => exact ⟨0, rfl, rfl, Nat.zero_le _, Below.refl _ _⟩
  case round =>
    obtain ⟨k, rfl, rfl, hk, hbe⟩ := hrel
    have HBE := Lib.hid hbe
    clear hbe
    by_cases hkl : k < xs.length
    · have t1 : (k : Int) < (xs.length : Int) := by omega
      have t2 : 0 ≤ (k : Int) := by omega
      obtain ⟨bs, os, rfl, hbs, hc⟩ := HP.out.row k (by rw [strs_length]; exact hkl)
      rw [strs_at _ _ hkl] at hc
      have hcw : wr.cell? ⟨bs, os + k, none⟩ = some (.string (B xs[k])) := (HBE.out.cell (p := ⟨bs, os + k, none⟩) hbs).trans hc
      have hsh := HP.out.short _ (List.getElem_mem hkl)
      have HPC := Lib.hid (refPut_calls xs[k] wr hsh)
      have HPS := Lib.hid (puts_take_succ xs k hkl)
      have HK := Lib.hid hkl
      have hcl : ¬ (9223372036854775807 < (puts (xs.take k)).length + (put xs[k]).length) := by
        have h1 := puts_take_le xs (k + 1)
        rw [puts_take_succ xs k hkl, List.length_append] at h1
        have := HP.out.sum
        omega
      have hs2 : ¬ (1048576 : Int) < ((xs[k].length : Nat) : Int) := by omega
      clear hc
      generalize puts (xs.take k) = sk at *
      generalize put xs[k] = pt at *
      generalize xs[k] = rk at *
      clear hkl c4
      go_wp2_with fail
      with_reducible refine HPC.out.mono ?_
      rintro e w3 ⟨rfl, hb3⟩
      have HB3 := Lib.hid (HBE.out.trans (hb3.mono HBE.out.size))
      clear hb3 HPC hcw
      go_wp2_with fail
      go_roundw
      case rel =>
        first
          | exact ⟨k + 1, by rw [HPS.out], by go_num, HK.out, HB3.out⟩
          | ((repeat apply Exists.intro); exact ⟨⟨k + 1, by rw [HPS.out], by go_num, HK.out, HB3.out⟩, rfl⟩)
      case measure => have := HK.out; simp [intOf]; omega
    · obtain rfl : k = xs.length := by omega
      rw [List.take_length]
      have t1 : ¬ (xs.length : Int) < (xs.length : Int) := by omega
      have t2 : ((xs.length : Int) == 0) = false := by simp; exact H0.out
      have HX := Lib.hid (H.out.later HBE.out)
      have HBD := Lib.hid (HBE.out.trans ((Below.refl wr.heap.size wr).drew.mono HBE.out.size))
      obtain ⟨g, cp, o, hdk⟩ := (H.out.later HBD.out).dk
      have HS := Lib.hid (RAppend_f hdk (puts xs) (by have := HP.out.sum; omega))
      have d0 : wr.cell? ⟨gb, 0, none⟩ = some (.pointer (some ⟨rb, 0, none⟩)) := (HX.out.cells 0 (by omega)).1
      have d1 : wr.cell? ⟨gb, 1, none⟩ = some (.string (B nA)) := (HX.out.cells 1 (by omega)).1
      clear hkl hk hdk c4
      obtain ⟨rd, hrd⟩ : ∃ rd, rd = appendD D nA (puts xs) := ⟨_, rfl⟩
      have HPT := Lib.hid (put_told (D := D) (xs := xs) H.out.told)
      have HAF := Lib.hid (show after D L rs xs = if (putRs D L xs).2.2 = 0 ∧ L.broken = false then rs ++ xs else rs from rfl)
      rw [← hrd] at HE0 HS
      clear hrd
      obtain ⟨D1, cc⟩ := rd
      simp only at HE0
      by_cases hc : cc = 0
      · subst hc
        have HE := Lib.hid (HE0.out.trans (if_pos rfl))
        rw [HE.out] at HPT HAF
        go_wp2_with fail
        go_still_tail 9, (by kernel_rfl)
        change wpList _ _ _ _ _ wr.drew
        go_wp2_with fail
        with_reducible refine HS.out.mono ?_
        rintro e w3 hp
        obtain ⟨h3, k3⟩ := H.out.disk HBD.out hp
        obtain ⟨he, -⟩ := hp
        subst he
        have e2 : w3.cell? ⟨gb, 2, none⟩ = some v := (h3.cells 2 (by omega)).1
        obtain ⟨g4, cp4, w4, hr4, ho4, hk4, hv4⟩ := append_keys w3 w0.heap.size (by have := k3.size; have := HW.out; omega) v rs h3.row p cap xs (fun j hj => by
          obtain ⟨b1, o1, he, hl, hc⟩ := HP.out.row j hj
          exact ⟨b1, o1, he, Nat.lt_of_lt_of_le hl k3.size, cell_kept hc k3 (HF.out _ he)⟩) H0.out (by have := HRL.out; omega)
        have e4 : w4.cell? ⟨gb, 2, none⟩ = some v := cell_kept e2 hk4 (fun e => (h3.apart gb e).2 rfl)
        have f4 : w4.frozen? ⟨gb, 2, none⟩ = false := ((h3.cells.kept hk4 h3.gl (fun e => (h3.apart gb e).2 rfl)) 2 (by omega)).2
        have HR4 := Lib.hid hr4
        obtain ⟨ys, ht, hys, -⟩ := HPT.out
        replace hys : ys = rs ++ xs := hys.trans (if_pos (by simp [HB2.out]))
        subst hys
        have HG := Lib.hid (h3.grow hk4 ho4 hv4 ht rfl rfl)
        have hz3 := k3.size
        have HK4 := Lib.hid (And.intro k3 (And.intro hk4 (show ∀ k, (Value.slice (some ⟨g4, 0, none⟩) (rs.length + xs.length) cp4).ownBlock = some k → v.ownBlock = some k ∨ w.heap.size ≤ k from fun k hk => (hv4 k hk).imp id (fun h => by omega))))
        clear h3 k3 hr4 ho4 hk4 hv4 ht HS d0 d1
        go_wp2_with (at_builtin; refine wpList_append_run rfl _ _ _ rfl rfl rfl HR4.out ?_)
        go_ret
        rw [HAF.out, if_pos (by simp [HB2.out])]
        exact GPost.made (w2 := w3) HG.out HE.out HK4.out.1 (X := fun i => i = gb ∨ v.ownBlock = some i) ((HK4.out.2.1.mono fun i hi => .inr hi).setCell (p := ⟨gb, 2, none⟩) (.inl (.inl rfl)) _) (fun i hi => hi) HK4.out.2.2
      · have HE1 := Lib.hid (HE0.out.trans (if_neg hc))
        have hcb : (cc == 0) = false := by simpa using hc
        have HAF2 := Lib.hid (show after D L rs xs = rs by rw [HAF.out, HE1.out, if_neg (fun e => hc e.1)])
        by_cases h6 : cc = 6
        · have HE := Lib.hid (show putRs D L xs = (D1, L, cc) by rw [HE1.out, h6, told_full])
          have hcb6 : (cc != 6) = false := by simpa using h6
          clear hc h6
          go_wp2_with fail
          go_still_tail 9, (by kernel_rfl)
          change wpList _ _ _ _ _ wr.drew
          go_wp2_with fail
          with_reducible refine HS.out.mono ?_
          rintro e w3 hp
          obtain ⟨h3, k3⟩ := H.out.disk HBD.out hp
          obtain ⟨he, -⟩ := hp
          subst he
          have H3 := Lib.hid h3
          have K3 := Lib.hid k3
          clear h3 k3 HS d0 d1
          go_wp2
          go_ret
          rw [HAF2.out]
          exact GPost.made (w2 := w3) H3.out HE.out K3.out (X := fun i => i = gb) (Kept.refl _ _) (fun i hi => .inl hi) (fun k hk => .inl hk)
        · have HE := Lib.hid (show putRs D L xs = (D1, { L with broken := true }, cc) by rw [HE1.out]; unfold toldL; rw [if_pos ⟨hc, h6⟩])
          have hcb6 : (cc != 6) = true := by simpa using h6
          clear hc h6
          go_wp2_with fail
          go_still_tail 9, (by kernel_rfl)
          change wpList _ _ _ _ _ wr.drew
          go_wp2_with fail
          with_reducible refine HS.out.mono ?_
          rintro e w3 hp
          obtain ⟨h3, k3⟩ := H.out.disk HBD.out hp
          obtain ⟨he, -⟩ := hp
          subst he
          have f4 := (h3.cells 4 (by omega)).2
          have d4 := (h3.cells 4 (by omega)).1
          simp only [gCell] at d4
          have H3 := Lib.hid h3
          have K3 := Lib.hid k3
          clear h3 k3 HS d0 d1
          go_wp2
          go_ret
          rw [HAF2.out]
          have hk : Kept (fun i => i = gb) w3 (w3.setCell ⟨gb, 4, none⟩ (.bool true)) := Kept.setCell (T := fun i => i = gb) (Kept.refl _ w3) (.inl rfl) _
          refine GPost.made (w2 := w3) (H3.out.turn (L' := { L with broken := true }) hk ((CellsAt.set H3.out.cells (i := 4) (by omega) (.bool true)).congr fun j hj => ?_) ⟨H.out.told.size, H.out.told.count, H.out.told.name⟩) HE.out K3.out hk (fun i hi => .inl hi) (fun k hk => .inl hk)
          have : j = 0 ∨ j = 1 ∨ j = 2 ∨ j = 3 ∨ j = 4 := by omega
          rcases this with rfl | rfl | rfl | rfl | rfl <;> rfl
end Go.Proofs.YtpiaplgbpjgjiaaGreatDoor.Lp
