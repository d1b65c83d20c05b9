/-
  The program's log beside the document's (layer 8): each call on one side, and both. Conditions: the sum's table is laid; all is the call's own.
-/
import Derived.Test.YtpiaplgbpjgjiaaGreatDoorZLpLogO
import Derived.Test.YtpiaplgbpjgjiaaGreatDoorZLpDisk
import Derived.Test.YtpiaplgbpjgjiaaGreatDoorZLpAlike
open Go Go.RowKit
namespace Go.Proofs.YtpiaplgbpjgjiaaGreatDoor.Lp
open Base Mp Dk Frame Lg

section
variable {w0 w w' : World} {b rb : Nat} {D D1 D' : DiskD} {lv gv : Value} {L : LogD} {rs rs' : List Key} {m : Option LogD} {k : Option (LogD × List Key)} {S V : Nat → Prop} {P : Program} {f : FuncId} {args : Array Value}
theorem more_old (h5 : ∀ i, V i → w0.heap.size ≤ i ∧ i < w.heap.size) (hz : w.heap.size ≤ w'.heap.size) (h0 : w0.heap.size ≤ w.heap.size) : ∀ i, More V w w' i → w0.heap.size ≤ i ∧ i < w'.heap.size := fun i hi => by
  rcases hi with hi | hi
  · have := h5 i hi; omega
  · omega
/-- A call on the document's disk. -/
theorem DSide.tell {E : Ending → Prop} (h : DSide w0 w rb D gv k V) (h0 : w0.heap.size ≤ w.heap.size) (hc : ∀ R g cap o, (∀ i, R i → V i) → RDAt w rb g cap D o R → Calls P f args w fun e w' => E e ∧ TPost w rb R D1 w') :
    Calls P f args w fun e w' => E e ∧ DSide w0 w' rb D1 gv k (More V w w') ∧ Kept V w w' := by
  obtain ⟨⟨R, g, cap, o, h1, h2, h3, h4⟩, h5⟩ := h
  refine (hc R g cap o h1 h2).mono ?_
  rintro e w' ⟨he, ⟨g2, cap2, o2, j1⟩, j2⟩
  refine ⟨he, ⟨⟨More R w w', g2, cap2, o2, fun i hi => hi.imp (h1 i) id, j1, h3, fun L rs hL => ?_⟩, more_old h5 j2.size h0⟩, j2.mono h1⟩
  obtain ⟨gb, v, e, hg⟩ := h4 L rs hL
  have hgl := (h5 _ hg.mine).2
  refine ⟨gb, v, e, ⟨hg.cells.kept j2 hgl hg.far, .inl hg.mine, ?_, own_kept hg.row j2 (fun r hr ht => (hg.apart r hr).2.1 ht), fun r hr => ⟨.inl (hg.apart r hr).1, ?_, (hg.apart r hr).2.2⟩, hg.told⟩⟩
  · rintro (hi | hi)
    · exact hg.far hi
    · omega
  · have := (h5 _ (hg.apart r hr).1).2
    rintro (hi | hi)
    · exact (hg.apart r hr).2.1 hi
    · omega
/-- A call on the document's log. -/
theorem DSide.put {r : DiskD × LogD × Int} (h : DSide w0 w rb D gv (some (L, rs)) V) (h0 : w0.heap.size ≤ w.heap.size) (hc : ∀ gb v R, gv = ptrP gb → (∀ i, R i → V i) → GX w0 w rb gb v D L rs R → Calls P f args w (GPost w0 w rb gb R v r rs')) :
    Calls P f args w fun e w' => e = .returned (.int .i64 r.2.2) ∧ DSide w0 w' rb r.1 gv (some (r.2.1, rs')) (More V w w') ∧ Kept V w w' := by
  obtain ⟨⟨R, g, cap, o, h1, h2, h3, h4⟩, h5⟩ := h
  obtain ⟨gb, v, e, hg⟩ := h4 L rs rfl
  refine (hc gb v R e h1 ⟨⟨g, cap, o, h2⟩, hg.cells, hg.far, hg.row, fun r hr => (hg.apart r hr).2, hg.told⟩).mono ?_
  rintro e2 w' ⟨he, v', R', j1, j2, j3, j4, j5⟩
  obtain ⟨g2, cap2, o2, j6⟩ := j3.dk
  refine ⟨he, ⟨⟨R', g2, cap2, o2, fun i hi => (j2 i hi).imp (h1 i) id, j6, fun hh => (by cases hh), fun L2 rs2 hL => ?_⟩, more_old h5 j5.size h0⟩, j5.mono fun i hi => ?_⟩
  · simp only [Option.some.injEq, Prod.mk.injEq] at hL
    obtain ⟨rfl, rfl⟩ := hL
    refine ⟨gb, v', e, ⟨j3.cells, .inl hg.mine, j3.far, j3.row, fun q hq => ⟨?_, j3.apart q hq⟩, j3.told⟩⟩
    rcases j4 q hq with h6 | h6
    · exact .inl (hg.apart q h6).1
    · exact .inr ⟨h6, (j3.row.lt q hq).2⟩
  · rcases hi with hi | hi | hi
    · exact h1 i hi
    · rw [hi]; exact hg.mine
    · exact (hg.apart i hi).1
/-- The document's Open. -/
theorem DSide.open_ (h : DSide w0 w rb D gv k V) (h0 : w0.heap.size ≤ w.heap.size) (hro : D.room ≤ 1048576) :
    Calls Tryz.prog 9 #[.pointer (some ⟨rb, 0, none⟩), .string (B nA)] w fun e w' => ∃ gv', e = .returned (.tuple #[gv', .int .i64 (openL D nA).2.2]) ∧ DSide w0 w' rb (openL D nA).1 gv' (openL D nA).2.1 (More V w w') ∧ Kept V w w' := by
  obtain ⟨⟨R, g, cap, o, h1, h2, h3, h4⟩, h5⟩ := h
  have hfi := h2.fine
  have hot := fun L rs (hL : (openL D nA).2.1 = some (L, rs)) => (open_told hfi hL).1
  refine (ROpen_f h2 hro).mono ?_
  generalize openL D nA = r at *
  obtain ⟨D4, k4, c⟩ := r
  rintro e w' ⟨R', j1, j2, ⟨g2, cap2, o2, j3⟩, j4, j5⟩
  simp only at hot j3 j5 ⊢
  have hR : ∀ i, R' i → More V w w' i := fun i hi => (j2 i hi).imp (h1 i) id
  rcases j5 with ⟨q1, q2, q3⟩ | ⟨L, rs, gb, v, q1, q2, q3, q4, q5, q6, q7, q8⟩
  · subst q1
    exact ⟨nilP, q3, ⟨⟨R', g2, cap2, o2, hR, j3, fun _ => rfl, fun L rs hL => by cases hL⟩, more_old h5 j4.size h0⟩, j4.mono h1⟩
  · subst q1 q2
    have hgl := CellsAt.lt q5 (by omega)
    refine ⟨ptrP gb, q3, ⟨⟨R', g2, cap2, o2, hR, j3, (fun hh => by cases hh), fun L2 rs2 hL => ?_⟩, more_old h5 j4.size h0⟩, j4.mono h1⟩
    simp only [Option.some.injEq, Prod.mk.injEq] at hL
    obtain ⟨rfl, rfl⟩ := hL
    exact ⟨gb, v, rfl, ⟨q5, .inr ⟨q4, hgl⟩, q6, own_lower q7 h0, fun q hq => ⟨.inr ⟨(q7.lt q hq).1, (q7.lt q hq).2⟩, q8 q hq⟩, hot _ _ rfl⟩⟩
end
/-- What stands between the steps of a script. -/
structure LP (w0 w : World) (b rb room i : Nat) (lv gv : Value) (k : Option (LogD × List Key)) (D : DiskD) (S V : Nat → Prop) : Prop where
  both : Both w0 w b rb D D lv gv (k.map (·.1)) k S V
  room : D.room = room
  size : ∀ L rs, k = some (L, rs) → L.size ≤ 65535 * (i + 1)
section
variable {w0 w w1 w2 w' : World} {b rb room i : Nat} {D D1 D' : DiskD} {lv lv' gv gv' : Value} {L : LogD} {rs rs' : List Key} {k : Option (LogD × List Key)} {S V : Nat → Prop} {P : Program} {f : FuncId} {args : Array Value}
theorem LP.lo (h : LP w0 w b rb room i lv gv k D S V) : w0.heap.size ≤ w.heap.size := h.both.p.lo
theorem LP.below (h : LP w0 w b rb room i lv gv k D S V) : Below w0.heap.size w0 w := h.both.p.below
theorem LP.later (h : LP w0 w b rb room i lv gv k D S V) (hb : Below w.heap.size w w') : LP w0 w' b rb room i lv gv k D S V := ⟨h.both.later hb, h.room, h.size⟩
theorem LP.next (h : LP w0 w b rb room i lv gv k D S V) : LP w0 w b rb room (i + 1) lv gv k D S V := ⟨h.both, h.room, fun L rs hL => by have := h.size L rs hL; omega⟩
theorem LP.told (h : LP w0 w b rb room i lv gv (some (L, rs)) D S V) : Told L rs ∧ L.size ≤ 65535 * (i + 1) := by
  obtain ⟨R, g, cap, o, h1, h2, h3, h4⟩ := h.both.d.disk
  obtain ⟨gb, v, e, hg⟩ := h4 L rs rfl
  exact ⟨hg.told, h.size L rs rfl⟩
theorem LP.nil (h : LP w0 w b rb room i lv gv none D S V) : lv = .pointer none ∧ gv = .pointer none := ⟨h.both.p.nil_, h.both.d.nil_⟩
theorem LP.ptrs (h : LP w0 w b rb room i lv gv (some (L, rs)) D S V) : ∃ lb gb p cap, lv = .pointer (some ⟨lb, 0, none⟩) ∧ gv = .pointer (some ⟨gb, 0, none⟩) ∧ CellsAt w lb 6 (logCell b L) ∧ CellsAt w gb 5 (gCell rb (.slice p rs.length cap) L) ∧ w.ownsRow w0.heap.size 9 1 (.slice p rs.length cap) rs.length (strs rs) := by
  obtain ⟨lb, T, e, hx, -, -⟩ := h.both.p.log
  obtain ⟨R, g, cap, o, h1, h2, h3, h4⟩ := h.both.d.disk
  obtain ⟨gb, v, e2, hg⟩ := h4 L rs rfl
  obtain ⟨p, c, rfl, -, -⟩ := own_cells hg.row
  exact ⟨lb, gb, p, c, e, e2, hx.log, hg.cells, hg.row⟩
theorem LP.alike (h : LP w0 w b rb room i lv gv k D S V) : Calls Tryz.prog 17 #[.pointer (some ⟨b, 0, none⟩), .pointer (some ⟨rb, 0, none⟩)] w fun e w' => e = .returned (.bool true) ∧ Below w.heap.size w w' := by
  obtain ⟨T, -, hp, -, -⟩ := h.both.p.disk
  obtain ⟨R, g, cap, o, -, hd, -, -⟩ := h.both.d.disk
  exact Alike_f hp hd
end
end Go.Proofs.YtpiaplgbpjgjiaaGreatDoor.Lp
