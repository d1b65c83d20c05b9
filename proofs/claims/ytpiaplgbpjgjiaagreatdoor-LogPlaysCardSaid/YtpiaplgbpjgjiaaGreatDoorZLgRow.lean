/-
  Logs (layer 8): a row of texts of the call's own beside a disk and a log. Condition: rows are no longer than 2^40.
-/
import Derived.Test.YtpiaplgbpjgjiaaGreatDoorZLgSame
open Go Go.RowKit
namespace Go.Proofs.YtpiaplgbpjgjiaaGreatDoor.Lg
open Base Mp Dk Frame

/-- A row that lies apart from the disk's blocks and the log's. -/
structure PutRow (w0 w : World) (v : Value) (rs : List Key) (T : Nat → Prop) (lb : Nat) : Prop where
  own : w.ownsRow w0.heap.size 9 1 v rs.length (strs rs)
  apart : ∀ k, v.ownBlock = some k → ¬ T k ∧ k ≠ lb
theorem PutRow.none (w0 w : World) (T : Nat → Prop) (lb : Nat) : PutRow w0 w (.slice none 0 0) [] T lb := ⟨World.ownsRow_nil _ _ _ _, fun k hk => by cases hk⟩
theorem PutRow.lt {w0 w : World} {v : Value} {rs : List Key} {T : Nat → Prop} {lb : Nat} (h : PutRow w0 w v rs T lb) : ∀ k, v.ownBlock = some k → w0.heap.size ≤ k ∧ k < w.heap.size := h.own.lt
/-- The disk, or the log, was called. -/
theorem PutRow.kept {w0 w w' : World} {v : Value} {rs : List Key} {T : Nat → Prop} {lb : Nat} (h : PutRow w0 w v rs T lb) (hk : Kept (fun i => T i ∨ i = lb) w w') : PutRow w0 w' v rs (More T w w') lb :=
  ⟨own_kept h.own hk (fun r hr ht => by have := h.apart r hr; rcases ht with ht | ht; exact this.1 ht; exact this.2 ht), fun k hk2 => ⟨fun ht => by
    have := h.lt k hk2
    rcases ht with ht | ht
    · exact (h.apart k hk2).1 ht
    · omega, (h.apart k hk2).2⟩⟩
theorem PutRow.disk {w0 w w' : World} {v : Value} {rs : List Key} {T : Nat → Prop} {lb : Nat} (h : PutRow w0 w v rs T lb) (hk : Kept T w w') : PutRow w0 w' v rs (More T w w') lb := h.kept (hk.mono fun _ hi => .inl hi)
theorem PutRow.later {w0 w w' : World} {v : Value} {rs : List Key} {T : Nat → Prop} {lb : Nat} (h : PutRow w0 w v rs T lb) (hk : Below w.heap.size w w') : PutRow w0 w' v rs T lb := ⟨own_next h.own hk, h.apart⟩
theorem PutRow.arg {w0 w : World} {v : Value} {rs : List Key} {T : Nat → Prop} {lb : Nat} (h : PutRow w0 w v rs T lb) : ∃ p cap, v = .slice p rs.length cap ∧ RowArg w p (strs rs) := by
  obtain ⟨p, cap, e, hr, -, -⟩ := RowArg.of_own h.own
  exact ⟨p, cap, e, hr⟩
/-- One text more. -/
theorem append_row {w0 w : World} {b lb : Nat} {D : DiskD} {L : LogD} {T : Nat → Prop} {v : Value} {rs : List Key} (hx : LX w0 w b lb D L T) (h : PutRow w0 w v rs T lb) (x : Key) (hm : rs.length + 1 ≤ 1099511627776) :
    ∃ v' w', (Builtin.append_ #[33, 33] 33 #[v, .slice (some ⟨w.heap.size, 0, none⟩) 1 1]).run Tryz.prog (w.alloc (.cells #[.string (B x)] 9)) = .ok v' w' ∧ LX w0 w' b lb D L T ∧ PutRow w0 w' v' (rs ++ [x]) T lb ∧ Kept (fun i => ¬ T i ∧ i ≠ lb) w w' := by
  have ho := h.own
  have hl : (strs rs).length = rs.length := strs_length rs
  obtain ⟨g, cap, w', h1, hg⟩ := append_key w w0.heap.size hx.dx.below.size v (strs rs) (by rw [hl]; exact ho) x (by rw [hl]; exact hm)
  have hkk : Kept (fun i => ¬ T i ∧ i ≠ lb) w w' := hg.kept.mono fun i hi => h.apart i hi
  refine ⟨_, w', h1, hx.next hg.kept fun i hi => ⟨(h.lt i hi).1, h.apart i hi⟩, ⟨?_, fun k hk => ?_⟩, hkk⟩
  · rw [List.length_append, strs_snoc]
    have := hg.own
    rw [hl] at this ⊢
    exact this
  · injection hk with hk
    subst hk
    rcases hg.blk with h4 | h4
    · exact h.apart _ h4
    · refine ⟨fun ht => ?_, fun e => ?_⟩
      · have := hx.dx.old _ ht
        simp only at this h4
        omega
      · have := hx.log.lt (by omega)
        simp only at e h4
        omega
end Go.Proofs.YtpiaplgbpjgjiaaGreatDoor.Lg
