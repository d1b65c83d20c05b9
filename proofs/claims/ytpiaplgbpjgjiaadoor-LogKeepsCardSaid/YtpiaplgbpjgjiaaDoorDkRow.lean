/-
  Disks (layer 7): rows of the call's own that grow beside a disk; a disk's calls with what they leave. Conditions: rows are no longer than 2^40.
-/
import Derived.Test.YtpiaplgbpjgjiaaDoorDkKeepM
import Derived.Maps.OwnRows
open Go Go.RowKit
namespace Go.Proofs.YtpiaplgbpjgjiaaDoor.Dk
open Base Mp

theorem infoKey : (Tryd.prog.info? 9).map (fun i => (i.zero, i.size, i.bytes)) = some (some (.string ⟨#[]⟩), 1, 16) := by kernel_rfl
/-- Two rows that lie in two blocks. -/
def Apart (v v2 : Value) : Prop := ∀ k, v.ownBlock = some k → v2.ownBlock ≠ some k
theorem Apart.symm {v v2 : Value} (h : Apart v v2) : Apart v2 v := fun k h1 h2 => h k h2 h1
theorem apart_nil (v : Value) : Apart (.slice none 0 0) v := fun q hq => by cases hq
/-- What an append of one element leaves. -/
structure Grew (base : Nat) (e : TypeId) (W : World) (v : Value) (n : Nat) (xs : List Value) (g cap : Nat) (w' : World) : Prop where
  own : w'.ownsRow base e 1 (.slice (some ⟨g, 0, none⟩) n cap) n xs
  kept : Kept (fun i => v.ownBlock = some i) W w'
  blk : v.ownBlock = some g ∨ W.heap.size ≤ g
  lt : g < w'.heap.size
theorem Grew.below {base n g cap : Nat} {e e2 : TypeId} {W w' : World} {v : Value} {xs ys : List Value} {m size : Nat} (h : Grew base e W v n xs g cap w') (ho : W.ownsRow base e2 size v m ys) (hb : base ≤ W.heap.size) : Below base W w' := h.kept.below (fun i hi => (ho.lt i hi).1) hb
theorem Grew.other {base base2 n g cap : Nat} {e e2 : TypeId} {W w' : World} {v v2 : Value} {xs ys : List Value} {m size : Nat} (h : Grew base e W v n xs g cap w') (ho : W.ownsRow base2 e2 size v2 m ys) (ha : Apart v v2) : w'.ownsRow base2 e2 size v2 m ys ∧ Apart (.slice (some ⟨g, 0, none⟩) n cap) v2 := by
  refine ⟨?_, fun k hk hk2 => ?_⟩
  · obtain ⟨hl, ⟨h1, h2⟩ | ⟨g2, cap2, cur, rfl, hg, hb, r⟩⟩ := ho
    · exact ⟨hl, .inl ⟨h1, h2⟩⟩
    · refine ⟨hl, .inr ⟨g2, cap2, cur, rfl, hg, ?_, r⟩⟩
      have hlt : g2 < W.heap.size := by
        rcases Nat.lt_or_ge g2 W.heap.size with h | h
        · exact h
        · rw [Array.getElem?_eq_none h] at hb; cases hb
      rw [h.kept.block g2 hlt (fun e => ha g2 e rfl)]
      exact hb
  · injection hk with hk
    subst hk
    rcases h.blk with h4 | h4
    · exact ha _ h4 hk2
    · have h9 := (ho.lt _ hk2).2
      simp only at h9 h4
      omega
theorem append_one {e ts : TypeId} {zv : Value} {by_ : Nat} (hinfo : (Tryd.prog.info? e).map (fun i => (i.zero, i.size, i.bytes)) = some (some zv, 1, by_)) (hz1 : zv.cells.size = 1) (hby : by_ ≤ 64) (ht : Tryd.prog.underlying ts = some (.slice e))
    (W : World) (base : Nat) (hb : base ≤ W.heap.size) (v : Value) (xs : List Value) (ho : W.ownsRow base e 1 v xs.length xs) (x : Value) (hx : x.oneCell' = true) (hm : xs.length + 1 ≤ 1099511627776) :
    ∃ g cap w', (Builtin.append_ #[ts, ts] ts #[v, .slice (some ⟨W.heap.size, 0, none⟩) 1 1]).run Tryd.prog (W.alloc (.cells #[x] e)) = .ok (.slice (some ⟨g, 0, none⟩) (xs.length + 1) cap) w' ∧ Grew base e W v (xs.length + 1) (xs ++ [x]) g cap w' := by
  obtain ⟨i0, hi, hz0, hz1', hz2⟩ := info_parts hinfo
  have hz := alloc_more W (.cells #[x] e)
  have hc := cells_made W #[x] e
  have hb1 : Below W.heap.size W (W.alloc (.cells #[x] e)) := (Below.refl _ _).alloc (Nat.le_refl _) _
  obtain ⟨g, cap, w', h1, h2, h3, h4, h5⟩ := run_append_lies (P := Tryd.prog) (W.alloc (.cells #[x] e)) ts ts base e i0 _ 1 by_ ht hi hz0 hz1' hz2 hz1 (by decide)
    v xs.length _ (ho.alloc _) ⟨W.heap.size, 0, none⟩ 1 1 [x] rfl (fun j u hj => by
      have hj3 : j < 1 := by
        rcases Nat.lt_or_ge j 1 with h | h
        · exact h
        · rw [List.getElem?_eq_none (by simpa using h)] at hj; cases hj
      obtain rfl : j = 0 := by omega
      rw [show (⟨W.heap.size, 0, none⟩ : Addr).add 0 = ⟨W.heap.size, 0, none⟩ by simp [Addr.add], (hc 0 hj3).1]
      exact hj) (by intro u hu; rw [List.mem_singleton.1 hu]; exact hx) (by decide) (by unfold maxLen; omega) (by
        have : (xs.length + 1) * by_ ≤ 1099511627776 * 64 := Nat.mul_le_mul hm hby
        omega) (by omega) _ rfl
  have h0 : Below 0 (W.alloc (.cells #[x] e)) w' := (Below.refl 0 _).grown h3 (Nat.zero_le _) (fun _ _ => Nat.zero_le _)
  have hk2 : Kept (fun i => v.ownBlock = some i) (W.alloc (.cells #[x] e)) w' := ⟨h0.os, h0.tape, h0.output, h0.size, fun k hk hn => h3.block k hk (fun e => hn e.symm)⟩
  have hlt : g < w'.heap.size := (h2.lt g rfl).2
  refine ⟨g, cap, w', h1, h2, (Kept.of_below (T := fun i => v.ownBlock = some i) hb1).trans hk2 (fun _ h => .inl h), ?_, hlt⟩
  rcases h4 with h4 | h4
  · exact .inl h4
  · right; omega
theorem append_key (W : World) (base : Nat) (hb : base ≤ W.heap.size) (v : Value) (xs : List Value) (ho : W.ownsRow base 9 1 v xs.length xs) (x : Key) (hm : xs.length + 1 ≤ 1099511627776) :
    ∃ g cap w', (Builtin.append_ #[24, 24] 24 #[v, .slice (some ⟨W.heap.size, 0, none⟩) 1 1]).run Tryd.prog (W.alloc (.cells #[.string (B x)] 9)) = .ok (.slice (some ⟨g, 0, none⟩) (xs.length + 1) cap) w' ∧ Grew base 9 W v (xs.length + 1) (xs ++ [.string (B x)]) g cap w' :=
  append_one infoKey rfl (by decide) Tryd.underlying24 W base hb v xs ho _ rfl hm
theorem append_num (W : World) (base : Nat) (hb : base ≤ W.heap.size) (v : Value) (xs : List Value) (ho : W.ownsRow base 3 1 v xs.length xs) (x : Int) (hm : xs.length + 1 ≤ 1099511627776) :
    ∃ g cap w', (Builtin.append_ #[46, 46] 46 #[v, .slice (some ⟨W.heap.size, 0, none⟩) 1 1]).run Tryd.prog (W.alloc (.cells #[.int .i64 x] 3)) = .ok (.slice (some ⟨g, 0, none⟩) (xs.length + 1) cap) w' ∧ Grew base 3 W v (xs.length + 1) (xs ++ [.int .i64 x]) g cap w' :=
  append_one infoInt rfl (by decide) Tryd.underlying46 W base hb v xs ho _ rfl hm
/-- A disk's call in a later world, with what it leaves. -/
theorem DW.op2 {w0 w1 w2 : World} {b : Nat} {D : DiskD} {P : Program} {f : FuncId} {args : Array Value} {r : DiskD × Int} (h : DW w0 w1 b D) (hk : Below w1.heap.size w1 w2) (c : ∀ T, (∀ i, T i → i < w1.heap.size) → DiskAt w2 b D T → Calls P f args w2 (OpPost w2 b T r)) :
    Calls P f args w2 fun e w' => e = .returned (.int .i64 r.2) ∧ DW w0 w' b r.1 ∧ Kept (fun i => w0.heap.size ≤ i ∧ i < w1.heap.size) w2 w' := by
  obtain ⟨hb, T, hd, hT⟩ := h
  have hold : ∀ i, T i → i < w1.heap.size := fun i hi => by
    obtain ⟨tag, blk, bm, hdd⟩ := hd
    exact hdd.old i hi
  refine (c T hold (hd.next (Kept.of_below hk))).mono ?_
  rintro e w' ⟨he, h1, h2⟩
  have hb2 := hb.trans (hk.mono hb.size)
  refine ⟨he, ⟨hb2.trans (h2.below hT hb2.size), _, h1, fun i hi => ?_⟩, h2.mono fun i hi => ⟨hT i hi, hold i hi⟩⟩
  rcases hi with hi | hi
  · exact hT i hi
  · exact Nat.le_trans hb2.size hi.1
theorem DW.crash2 {w0 w1 w2 : World} {b : Nat} {D : DiskD} (h : DW w0 w1 b D) (hk : Below w1.heap.size w1 w2) (p : Option Addr) (keep : List Int) (cap : Nat) (hI : IntsAt w2 p keep) (hi : IntsIn keep) (hc : keep.length ≤ cap) (hm : cap ≤ 9223372036854775807) (hp : ∀ a, p = some a → w1.heap.size ≤ a.block) :
    Calls Tryd.prog 22 #[.pointer (some ⟨b, 0, none⟩), .slice p keep.length cap] w2 fun e w' => e = .returned (.int .i64 0) ∧ DW w0 w' b (crashD D keep) ∧ Kept (fun i => w0.heap.size ≤ i ∧ i < w1.heap.size) w2 w' :=
  h.op2 hk (r := (crashD D keep, 0)) fun T hT hd => Crash_f hd p keep cap hI hi hc hm (fun a ha ht => by have h1 := hp a ha; have h2 := hT _ ht; omega)
theorem rLoose {w0 w : World} {b : Nat} {D : DiskD} (h : DW w0 w b D) (n : Key) (hn : n.length ≤ maxLen) : Calls Tryd.prog 19 #[.pointer (some ⟨b, 0, none⟩), .string (B n)] w fun e w' => e = .returned (.int .i64 (looseD D n : Nat)) ∧ ∃ m, w' = w.drewN m := by
  obtain ⟨hb, T, hd, hT⟩ := h
  exact Loose_f hd n hn
theorem sNames {w0 w : World} {b : Nat} {D : DiskD} (h : DW w0 w b D) : Calls Tryd.prog 41 #[.pointer (some ⟨b, 0, none⟩)] w fun e w' => ∃ p cap, e = .returned (.slice p (namesD D).length cap) ∧ (∀ j (hj : j < (namesD D).length), ∃ g, p = some ⟨g, 0, none⟩ ∧ w.heap.size ≤ g ∧ g < w'.heap.size ∧ w'.cell? ⟨g, j, none⟩ = some (.string (B (namesD D)[j]))) ∧ Below w.heap.size w w' := by
  obtain ⟨hb, T, hd, hT⟩ := h
  refine (Names_f hd).mono ?_
  rintro e w' ⟨v, he, hr, hk⟩
  obtain ⟨p, cap, rfl, hq⟩ := names_form hr
  exact ⟨p, cap, he, hq, hk⟩
/-- The cells of a row. -/
theorem own_cells {w : World} {base : Nat} {e : TypeId} {v : Value} {n : Nat} {xs : List Value} (h : w.ownsRow base e 1 v n xs) : ∃ p cap, v = .slice p n cap ∧ xs.length = n ∧ ∀ j (hj : j < xs.length), ∃ g, p = some ⟨g, 0, none⟩ ∧ base ≤ g ∧ g < w.heap.size ∧ w.cell? ⟨g, j, none⟩ = some xs[j] := by
  have hl : xs.length = n := by have := h.1; omega
  rcases h.2 with ⟨rfl, rfl⟩ | ⟨g, cap, cur, rfl, hg, hh, hnc, hcm, _, _⟩
  · have : xs = [] := List.length_eq_zero_iff.1 hl
    subst this
    exact ⟨none, 0, rfl, rfl, fun j hj => by simp at hj⟩
  · refine ⟨some ⟨g, 0, none⟩, cap, rfl, hl, fun j hj => ⟨g, rfl, hg, ?_, ?_⟩⟩
    · rcases Nat.lt_or_ge g w.heap.size with hlt | hge
      · exact hlt
      · rw [Array.getElem?_eq_none hge] at hh; cases hh
    · rw [h.cellAt j (by omega), List.getElem?_eq_getElem hj]
theorem cell_kept {T : Nat → Prop} {w w' : World} {g j : Nat} {v : Value} (h : w.cell? ⟨g, j, none⟩ = some v) (hk : Kept T w w') (hT : ¬ T g) : w'.cell? ⟨g, j, none⟩ = some v :=
  (World.cell?_of_block (a := ⟨g, j, none⟩) (hk.block g (lt_of_cell h) hT)).trans h
end Go.Proofs.YtpiaplgbpjgjiaaDoor.Dk
