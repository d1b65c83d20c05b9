/-
  A log of the program's beside one of the document's (layer 8): what lies in memory, each side's blocks told; the program's calls on its side. Condition: the sum's table is laid.
-/
import Derived.Test.YtpiaplgbpjgjiaaGreatDoorZLpMath
import Derived.Test.YtpiaplgbpjgjiaaGreatDoorZLpRefB
open Go Go.RowKit
namespace Go.Proofs.YtpiaplgbpjgjiaaGreatDoor.Lp
open Base Mp Dk Frame Lg

def nilP : Value := .pointer none
def ptrP (b : Nat) : Value := .pointer (some ⟨b, 0, none⟩)
/-- The program's side: the disk, and the log, if there is one. -/
structure PSide (w0 w : World) (b : Nat) (D : DiskD) (lv : Value) (m : Option LogD) (S : Nat → Prop) : Prop where
  disk : ∃ T, (∀ i, T i → S i) ∧ DX w0 w b D T ∧ (m = none → lv = nilP) ∧ ∀ L, m = some L → ∃ lb, lv = ptrP lb ∧ CellsAt w lb 6 (logCell b L) ∧ S lb ∧ ¬ T lb
  old : ∀ i, S i → w0.heap.size ≤ i ∧ i < w.heap.size
def gCell (rb : Nat) (v : Value) (L : LogD) : Nat → Value
  | 0 => .pointer (some ⟨rb, 0, none⟩)
  | 1 => .string (B nA)
  | 2 => v
  | 3 => .int .i64 (L.sure : Int)
  | _ => .bool L.broken
/-- The document's log. -/
structure GAt (w0 w : World) (rb gb : Nat) (v : Value) (L : LogD) (rs : List Key) (V R : Nat → Prop) : Prop where
  cells : CellsAt w gb 5 (gCell rb v L)
  mine : V gb
  far : ¬ R gb
  row : w.ownsRow w0.heap.size 9 1 v rs.length (strs rs)
  apart : ∀ k, v.ownBlock = some k → V k ∧ ¬ R k ∧ k ≠ gb
  told : Told L rs
structure DSide (w0 w : World) (rb : Nat) (D : DiskD) (gv : Value) (m : Option (LogD × List Key)) (V : Nat → Prop) : Prop where
  disk : ∃ R g cap o, (∀ i, R i → V i) ∧ RDAt w rb g cap D o R ∧ (m = none → gv = nilP) ∧ ∀ L rs, m = some (L, rs) → ∃ gb v, gv = ptrP gb ∧ GAt w0 w rb gb v L rs V R
  old : ∀ i, V i → w0.heap.size ≤ i ∧ i < w.heap.size
section
variable {w0 w w' : World} {b rb gb : Nat} {D D' : DiskD} {lv gv v : Value} {L : LogD} {rs : List Key} {m : Option LogD} {k : Option (LogD × List Key)} {S V R X : Nat → Prop}
theorem GAt.next (h : GAt w0 w rb gb v L rs V R) (hV : ∀ i, V i → i < w.heap.size) (hk : Kept X w w') (hX : ∀ i, X i → ¬ V i) : GAt w0 w' rb gb v L rs V R :=
  ⟨h.cells.kept hk (hV _ h.mine) (fun e => hX _ e h.mine), h.mine, h.far, own_kept h.row hk (fun r hr ht => hX _ ht (h.apart r hr).1), h.apart, h.told⟩
theorem PSide.below (h : PSide w0 w b D lv m S) : Below w0.heap.size w0 w := by
  obtain ⟨T, -, h, -⟩ := h.disk
  exact h.below
theorem PSide.fine (h : PSide w0 w b D lv m S) : Fine D := by
  obtain ⟨T, -, h, -⟩ := h.disk
  exact h.fine
theorem PSide.next (h : PSide w0 w b D lv m S) (hk : Kept X w w') (hX : ∀ i, X i → w0.heap.size ≤ i ∧ ¬ S i) : PSide w0 w' b D lv m S := by
  obtain ⟨⟨T, h1, h2, h3, h4⟩, h5⟩ := h
  refine ⟨⟨T, h1, h2.next hk fun i hi => ⟨(hX i hi).1, fun ht => (hX i hi).2 (h1 i ht)⟩, h3, fun L hL => ?_⟩, fun i hi => ⟨(h5 i hi).1, Nat.lt_of_lt_of_le (h5 i hi).2 hk.size⟩⟩
  obtain ⟨lb, e, hc, hs, hn⟩ := h4 L hL
  exact ⟨lb, e, hc.kept hk (h5 _ hs).2 (fun ht => (hX _ ht).2 hs), hs, hn⟩
theorem PSide.wide (h : PSide w0 w b D lv m S) {S' : Nat → Prop} (h1 : ∀ i, S i → S' i) (h2 : ∀ i, S' i → w0.heap.size ≤ i ∧ i < w.heap.size) : PSide w0 w b D lv m S' := by
  obtain ⟨⟨T, k1, k2, k3, k4⟩, k5⟩ := h
  refine ⟨⟨T, fun i hi => h1 i (k1 i hi), k2, k3, fun L hL => ?_⟩, h2⟩
  obtain ⟨lb, e, hc, hs, hn⟩ := k4 L hL
  exact ⟨lb, e, hc, h1 _ hs, hn⟩
theorem PSide.log (h : PSide w0 w b D lv (some L) S) : ∃ lb T, lv = ptrP lb ∧ LX w0 w b lb D L T ∧ S lb ∧ ∀ i, T i → S i := by
  obtain ⟨⟨T, h1, h2, h3, h4⟩, h5⟩ := h
  obtain ⟨lb, e, hc, hs, hn⟩ := h4 L rfl
  exact ⟨lb, T, e, ⟨h2, hc, (h5 _ hs).1, hn⟩, hs, h1⟩
theorem PSide.nil_ (h : PSide w0 w b D lv none S) : lv = nilP := by
  obtain ⟨⟨T, h1, h2, h3, h4⟩, h5⟩ := h
  exact h3 rfl
theorem DSide.next (h : DSide w0 w rb D gv k V) (hk : Kept X w w') (hX : ∀ i, X i → ¬ V i) : DSide w0 w' rb D gv k V := by
  obtain ⟨⟨R, g, cap, o, h1, h2, h3, h4⟩, h5⟩ := h
  refine ⟨⟨R, g, cap, o, h1, h2.next hk fun i hi ht => hX i hi (h1 i ht), h3, fun L rs hL => ?_⟩, fun i hi => ⟨(h5 i hi).1, Nat.lt_of_lt_of_le (h5 i hi).2 hk.size⟩⟩
  obtain ⟨gb, v, e, hg⟩ := h4 L rs hL
  exact ⟨gb, v, e, hg.next (fun i hi => (h5 i hi).2) hk hX⟩
theorem DSide.nil_ (h : DSide w0 w rb D gv none V) : gv = nilP := by
  obtain ⟨⟨R, g, cap, o, h1, h2, h3, h4⟩, h5⟩ := h
  exact h3 rfl
/-- A call on the program's disk, beside the log. -/
theorem PSide.op {P : Program} {f : FuncId} {args : Array Value} {c : Int} (h : PSide w0 w b D lv m S) (hc : ∀ T, DX w0 w b D T → Calls P f args w fun e w' => e = .returned (.int .i64 c) ∧ DX w0 w' b D' (More T w w') ∧ Kept T w w') :
    Calls P f args w fun e w' => e = .returned (.int .i64 c) ∧ PSide w0 w' b D' lv m (More S w w') ∧ Kept S w w' := by
  obtain ⟨⟨T, h1, h2, h3, h4⟩, h5⟩ := h
  refine (hc T h2).mono ?_
  rintro e w' ⟨he, k1, k2⟩
  refine ⟨he, ⟨⟨More T w w', fun i hi => hi.imp (h1 i) id, k1, h3, fun L hL => ?_⟩, fun i hi => ?_⟩, k2.mono h1⟩
  · obtain ⟨lb, e, hc, hs, hn⟩ := h4 L hL
    refine ⟨lb, e, hc.kept k2 (h5 _ hs).2 hn, .inl hs, fun ht => ?_⟩
    rcases ht with ht | ht
    · exact hn ht
    · have := (h5 _ hs).2; omega
  · have h6 := k2.size
    rcases hi with hi | hi
    · have := h5 i hi; omega
    · have := h2.below.size; omega
/-- A call on the program's log. -/
theorem PSide.put {P : Program} {f : FuncId} {args : Array Value} {r : DiskD × LogD × Int} (h : PSide w0 w b D lv (some L) S) (hc : ∀ lb T, lv = ptrP lb → LX w0 w b lb D L T → Calls P f args w (LPost w0 w b lb T r)) :
    Calls P f args w fun e w' => e = .returned (.int .i64 r.2.2) ∧ PSide w0 w' b r.1 lv (some r.2.1) (More S w w') ∧ Kept S w w' := by
  have h5 := h.old
  obtain ⟨lb, T, e, hx, hs, hT⟩ := h.log
  refine (hc lb T e hx).mono ?_
  rintro e2 w' ⟨he, k1, k2⟩
  refine ⟨he, ⟨⟨More T w w', fun i hi => hi.imp (hT i) id, k1.dx, fun hh => (by cases hh), fun L' hL => ?_⟩, fun i hi => ?_⟩, k2.mono fun i hi => ?_⟩
  · injection hL with hL
    subst hL
    exact ⟨lb, e, k1.log, .inl hs, k1.far⟩
  · have h6 := k2.size
    rcases hi with hi | hi
    · have := h5 i hi; omega
    · have := hx.dx.below.size; omega
  · rcases hi with hi | hi
    · exact hT i hi
    · rw [hi]; exact hs
/-- The program's Open, on its side. -/
theorem PSide.open_ (h : PSide w0 w b D lv m S) (hT : Crc.TabOk w0) (hro : D.room ≤ 65535) :
    Calls Tryz.prog 8 #[.pointer (some ⟨b, 0, none⟩), .string (B nA)] w fun e w' => ∃ lv' p cap, e = .returned (.tuple #[lv', .slice p (((openL D nA).2.1.map (·.2)).getD []).length cap, .int .i64 (openL D nA).2.2]) ∧ PSide w0 w' b (openL D nA).1 lv' ((openL D nA).2.1.map (·.1)) (More S w w') ∧ Kept S w w' ∧ ((openL D nA).2.1 = Option.none ↔ (openL D nA).2.2 ≠ 0) ∧
      ∀ j (hj : j < (((openL D nA).2.1.map (·.2)).getD []).length), ∃ g, p = some ⟨g, 0, Option.none⟩ ∧ w.heap.size ≤ g ∧ g < w'.heap.size ∧ w'.cell? ⟨g, j, Option.none⟩ = some (.string (B (((openL D nA).2.1.map (·.2)).getD [])[j])) := by
  obtain ⟨⟨T, h1, h2, h3, h4⟩, h5⟩ := h
  refine (LOpen_f h2 hT nA (by decide) (by omega)).mono ?_
  generalize openL D nA = r
  obtain ⟨D', o, c⟩ := r
  rintro e w' ⟨T', k1, k2, k3, k4⟩
  have hsz := k3.size
  have hw := h2.below.size
  have hold : ∀ i, More S w w' i → w0.heap.size ≤ i ∧ i < w'.heap.size := fun i hi => by
    rcases hi with hi | hi
    · have := h5 i hi; omega
    · omega
  have hTo : ∀ i, T' i → More S w w' i := fun i hi => by
    rcases k1 i hi with h | h
    · exact .inl (h1 i h)
    · exact .inr ⟨h, k2.old i hi⟩
  rcases k4 with ⟨q1, q2, q3⟩ | ⟨L, rs, lb, v, q1, q2, q3, q4, q5, q6, q7, q8⟩
  · simp only at q1 q2 q3
    subst q1
    refine ⟨nilP, Option.none, 0, q3, ⟨⟨T', hTo, k2, fun _ => rfl, fun L hL => by cases hL⟩, hold⟩, k3.mono h1, ⟨fun _ => q2, fun _ => rfl⟩, fun j hj => by simp at hj⟩
  · simp only at q1 q2 q3
    subst q1 q2
    obtain ⟨p, cap, rfl, hl, hc⟩ := own_cells q7
    refine ⟨ptrP lb, p, cap, q3, ⟨⟨T', hTo, k2, (fun hh => by cases hh), fun L' hL => ?_⟩, hold⟩, k3.mono h1, ⟨(fun hh => by cases hh), fun hh => absurd rfl hh⟩, fun j hj => ?_⟩
    · simp only [Option.map_some, Option.some.injEq] at hL
      subst hL
      have hlb := CellsAt.lt q4 (by omega)
      exact ⟨lb, rfl, q4, .inr ⟨q5, hlb⟩, q6⟩
    · obtain ⟨g, e1, e2, e3, e4⟩ := hc j (by rw [hl]; exact hj)
      exact ⟨g, e1, e2, e3, e4.trans (congrArg some (strs_at rs j hj))⟩
/-- Both. -/
structure Both (w0 w : World) (b rb : Nat) (D D' : DiskD) (lv gv : Value) (m : Option LogD) (k : Option (LogD × List Key)) (S V : Nat → Prop) : Prop where
  p : PSide w0 w b D lv m S
  d : DSide w0 w rb D' gv k V
  ne : ∀ i, S i → ¬ V i
theorem Both.prog {m' : Option LogD} {lv' : Value} {D1 : DiskD} (h : Both w0 w b rb D D' lv gv m k S V) (hp : PSide w0 w' b D1 lv' m' (More S w w')) (hk : Kept S w w') : Both w0 w' b rb D1 D' lv' gv m' k (More S w w') V :=
  ⟨hp, h.d.next hk h.ne, fun i hi hv => by
    rcases hi with hi | hi
    · exact h.ne i hi hv
    · have := (h.d.old i hv).2; omega⟩
theorem Both.docu {k' : Option (LogD × List Key)} {gv' : Value} {D1 : DiskD} (h : Both w0 w b rb D D' lv gv m k S V) (hd : DSide w0 w' rb D1 gv' k' (More V w w')) (hk : Kept V w w') : Both w0 w' b rb D D1 lv gv' m k' S (More V w w') :=
  ⟨h.p.next hk fun i hi => ⟨(h.d.old i hi).1, fun hs => h.ne i hs hi⟩, hd, fun i hi hv => by
    rcases hv with hv | hv
    · exact h.ne i hi hv
    · have := (h.p.old i hi).2; omega⟩
theorem Both.later (h : Both w0 w b rb D D' lv gv m k S V) (hb : Below w.heap.size w w') : Both w0 w' b rb D D' lv gv m k S V :=
  ⟨h.p.next (Kept.of_below (T := fun _ => False) hb) (fun _ h => h.elim), h.d.next (Kept.of_below (T := fun _ => False) hb) (fun _ h => h.elim), h.ne⟩
end
end Go.Proofs.YtpiaplgbpjgjiaaGreatDoor.Lp
