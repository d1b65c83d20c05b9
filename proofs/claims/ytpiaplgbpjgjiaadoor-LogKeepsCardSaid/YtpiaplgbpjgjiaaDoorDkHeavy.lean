/-
  Disks (layer 7): the walk of the guard Heavy. Conditions: the steps lie in memory; texts and lists are no longer than the reach.
-/
import Derived.Test.YtpiaplgbpjgjiaaDoorDkDoes
import Derived.Deep.RegionHeld3
open Go Go.RowKit
namespace Go.Proofs.YtpiaplgbpjgjiaaDoor.Dk
open Base Mp
attribute [local go_sem ↓] Go.wp_at_zero Go.wp_at_succ

/-- A step in memory, its first cell at offset o. -/
structure StepAt (w : World) (b o : Nat) (x : StepD) : Prop where
  c0 : w.cell? ⟨b, o, none⟩ = some (.int .i64 x.do_)
  c1 : w.cell? ⟨b, o + 1, none⟩ = some (.string (B x.name))
  c2 : w.cell? ⟨b, o + 2, none⟩ = some (.string (B x.s))
  c3 : w.cell? ⟨b, o + 3, none⟩ = some (.int .i64 x.n)
  c4 : w.cell? ⟨b, o + 4, none⟩ = some (.int .u8 (x.by_.toNat : Int))
  c5 : w.cell? ⟨b, o + 5, none⟩ = some (.slice x.kp x.keep.length x.kc)
/-- What is known of each step that comes in. -/
structure StepFit (w : World) (x : StepD) : Prop where
  name : x.name.length ≤ 140737488355328
  s : x.s.length ≤ 140737488355328
  n : -9223372036854775808 ≤ x.n ∧ x.n ≤ 9223372036854775807
  keep : IntsIn x.keep
  few : x.keep.length ≤ 140737488355328
  ints : IntsAt w x.kp x.keep
theorem StepAt.below {w w' : World} {b o : Nat} {x : StepD} (h : StepAt w b o x) (hb : Below w.heap.size w w') : StepAt w' b o x := by
  have hlt := lt_of_cell h.c0
  have key : ∀ j v, w.cell? ⟨b, j, none⟩ = some v → w'.cell? ⟨b, j, none⟩ = some v := fun j v hc => (World.cell?_of_block (a := ⟨b, j, none⟩) (hb.block b hlt)).trans hc
  exact ⟨key _ _ h.c0, key _ _ h.c1, key _ _ h.c2, key _ _ h.c3, key _ _ h.c4, key _ _ h.c5⟩
theorem StepFit.below {w w' : World} {x : StepD} (h : StepFit w x) (hb : Below w.heap.size w w') : StepFit w' x := ⟨h.name, h.s, h.n, h.keep, h.few, ints_kept (T := fun _ => False) h.ints (Kept.of_below hb) (fun _ _ h => h)⟩
def StepsArg (w : World) (p : Option Addr) (l : List StepD) : Prop := ∀ j (h : j < l.length), ∃ b o, p = some ⟨b, o, none⟩ ∧ StepAt w b (o + j * 6) l[j] ∧ StepFit w l[j]
theorem StepsArg.below {w w' : World} {p : Option Addr} {l : List StepD} (h : StepsArg w p l) (hb : Below w.heap.size w w') : StepsArg w' p l := fun j hj => by
  obtain ⟨b, o, h1, h2, h3⟩ := h j hj
  exact ⟨b, o, h1, h2.below hb, h3.below hb⟩
def heavyN (l : List StepD) : Nat := (l.map fun x => x.name.length + x.s.length + x.keep.length).sum
def heavyB (l : List StepD) : Bool := decide (200 < l.length) || decide (16384 < heavyN (l.take 500))
theorem heavyN_succ (l : List StepD) (i : Nat) (h : i < l.length) : heavyN (l.take (i + 1)) = heavyN (l.take i) + l[i].name.length + l[i].s.length + l[i].keep.length := by
  unfold heavyN
  rw [List.take_succ_eq_append_getElem h, List.map_append, List.sum_append]
  simp
  omega
end Go.Proofs.YtpiaplgbpjgjiaaDoor.Dk
