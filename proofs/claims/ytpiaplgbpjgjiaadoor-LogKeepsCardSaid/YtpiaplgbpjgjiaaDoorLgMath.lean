/-
  Logs (layer 8) on plain data: what each call does to the disk and to the log; a disk in memory beside other things. No condition.
-/
import Derived.Test.YtpiaplgbpjgjiaaDoorDkRow
import Derived.Test.YtpiaplgbpjgjiaaDoorFrameScan
open Go Go.RowKit
namespace Go.Proofs.YtpiaplgbpjgjiaaDoor.Lg
open Base Mp Dk Frame

structure LogD where
  name : Key
  size : Nat
  count : Nat
  sure : Nat
  broken : Bool
/-- What a log makes of its disk's answer. -/
def toldL (L : LogD) (c : Int) : LogD := if c ≠ 0 ∧ c ≠ 6 then { L with broken := true } else L
def putRs (D : DiskD) (L : LogD) (rs : List Key) : DiskD × LogD × Int :=
  if L.broken = true then (D, L, 3) else if rs = [] then (D, L, 0) else
    if (appendD D L.name (puts rs)).2 = 0 then ((appendD D L.name (puts rs)).1, { L with size := L.size + (puts rs).length, count := L.count + rs.length }, 0)
    else ((appendD D L.name (puts rs)).1, toldL L (appendD D L.name (puts rs)).2, (appendD D L.name (puts rs)).2)
def keepL (D : DiskD) (L : LogD) : DiskD × LogD × Int :=
  if L.broken = true then (D, L, 3) else
    if (syncD D L.name).2 = 0 then ((syncD D L.name).1, { L with sure := L.count }, 0) else ((syncD D L.name).1, toldL L (syncD D L.name).2, (syncD D L.name).2)
/-- How many bytes of a text are whole frames. -/
def good (t : Key) : Nat := t.length - (scanAll t).2.1.length
def recs (t : Key) : List Key := (scanAll t).1
def fresh (n : Key) (t : Key) : LogD := ⟨n, good t, (recs t).length, (recs t).length, false⟩
/-- What is done behind the scan. -/
def mend (D : DiskD) (n t : Key) (created : Bool) : DiskD × Int :=
  if good t < t.length then cutD D n (good t : Int) else if created = true ∨ 0 < looseD D n then syncD D n else (D, 0)
def ends (n t : Key) (r : DiskD × Int) : DiskD × Option (LogD × List Key) × Int := if r.2 = 0 then (r.1, some (fresh n t, recs t), 0) else (r.1, none, r.2)
def openL (D : DiskD) (n : Key) : DiskD × Option (LogD × List Key) × Int :=
  match lookL D.files (keyS n) with
  | none => if (createD D n).2 = 0 then ends n [] (mend (createD D n).1 n [] true) else ((createD D n).1, none, (createD D n).2)
  | some F => ends n F.bytes (mend D n F.bytes false)
/-! In memory. -/
def logCell (b : Nat) (L : LogD) : Nat → Value
  | 0 => .pointer (some ⟨b, 0, none⟩)
  | 1 => .string (B L.name)
  | 2 => .int .i64 (L.size : Int)
  | 3 => .int .i64 (L.count : Int)
  | 4 => .int .i64 (L.sure : Int)
  | _ => .bool L.broken
/-- A disk of the call's own, its blocks told. -/
structure DX (w0 w : World) (b : Nat) (D : DiskD) (T : Nat → Prop) : Prop where
  below : Below w0.heap.size w0 w
  dk : DiskAt w b D T
  own : ∀ i, T i → w0.heap.size ≤ i
theorem DX.dw {w0 w : World} {b : Nat} {D : DiskD} {T : Nat → Prop} (h : DX w0 w b D T) : DW w0 w b D := ⟨h.below, T, h.dk, h.own⟩
theorem DX.old {w0 w : World} {b : Nat} {D : DiskD} {T : Nat → Prop} (h : DX w0 w b D T) : ∀ i, T i → i < w.heap.size := by
  obtain ⟨tag, blk, bm, hd⟩ := h.dk
  exact hd.old
theorem DX.fine {w0 w : World} {b : Nat} {D : DiskD} {T : Nat → Prop} (h : DX w0 w b D T) : Fine D := h.dw.fine
theorem dx_of {w0 w : World} {b : Nat} {D : DiskD} (h : DW w0 w b D) : ∃ T, DX w0 w b D T := by
  obtain ⟨hb, T, hd, hT⟩ := h
  exact ⟨T, hb, hd, hT⟩
theorem DX.op {w0 w : World} {b : Nat} {D : DiskD} {T : Nat → Prop} {P : Program} {f : FuncId} {args : Array Value} {r : DiskD × Int} (h : DX w0 w b D T) (c : Calls P f args w (OpPost w b T r)) :
    Calls P f args w fun e w' => e = .returned (.int .i64 r.2) ∧ DX w0 w' b r.1 (More T w w') ∧ Kept T w w' := by
  refine c.mono ?_
  rintro e w' ⟨he, h1, h2⟩
  refine ⟨he, ⟨h.below.trans (h2.below h.own h.below.size), h1, fun i hi => ?_⟩, h2⟩
  rcases hi with hi | hi
  · exact h.own i hi
  · exact Nat.le_trans h.below.size hi.1
theorem DX.later {w0 w w' : World} {b : Nat} {D : DiskD} {T : Nat → Prop} (h : DX w0 w b D T) (hk : Below w.heap.size w w') : DX w0 w' b D T :=
  ⟨h.below.trans (hk.mono h.below.size), h.dk.next (Kept.of_below hk), h.own⟩
theorem DX.next {w0 w w' : World} {b : Nat} {D : DiskD} {T X : Nat → Prop} (h : DX w0 w b D T) (hk : Kept X w w') (hX : ∀ i, X i → w0.heap.size ≤ i ∧ ¬ T i) : DX w0 w' b D T :=
  ⟨h.below.trans (hk.below (fun i hi => (hX i hi).1) h.below.size), h.dk.next (hk.mono fun i hi => (hX i hi).2), h.own⟩
/-- A log beside its disk. -/
structure LX (w0 w : World) (b lb : Nat) (D : DiskD) (L : LogD) (T : Nat → Prop) : Prop where
  dx : DX w0 w b D T
  log : CellsAt w lb 6 (logCell b L)
  new : w0.heap.size ≤ lb
  far : ¬ T lb
theorem LX.later {w0 w w' : World} {b lb : Nat} {D : DiskD} {L : LogD} {T : Nat → Prop} (h : LX w0 w b lb D L T) (hk : Below w.heap.size w w') : LX w0 w' b lb D L T :=
  ⟨h.dx.later hk, h.log.below hk (h.log.lt (by omega)), h.new, h.far⟩
theorem LX.next {w0 w w' : World} {b lb : Nat} {D : DiskD} {L : LogD} {T X : Nat → Prop} (h : LX w0 w b lb D L T) (hk : Kept X w w') (hX : ∀ i, X i → w0.heap.size ≤ i ∧ ¬ T i ∧ i ≠ lb) : LX w0 w' b lb D L T :=
  ⟨h.dx.next hk fun i hi => ⟨(hX i hi).1, (hX i hi).2.1⟩, h.log.kept hk (h.log.lt (by omega)) (fun hl => (hX lb hl).2.2 rfl), h.new, h.far⟩
/-- The disk was called. -/
theorem LX.disk {w0 w w' : World} {b lb : Nat} {D D' : DiskD} {L : LogD} {T : Nat → Prop} (h : LX w0 w b lb D L T) (hd : DX w0 w' b D' (More T w w')) (hk : Kept T w w') : LX w0 w' b lb D' L (More T w w') := by
  have hlt := h.log.lt (by omega)
  refine ⟨hd, h.log.kept hk hlt h.far, h.new, ?_⟩
  rintro (hi | hi)
  · exact h.far hi
  · omega
/-- The log's own cells turned. -/
theorem LX.turn {w0 w w' : World} {b lb : Nat} {D : DiskD} {L L' : LogD} {T : Nat → Prop} (h : LX w0 w b lb D L T) (hk : Kept (fun i => i = lb) w w') (hc : CellsAt w' lb 6 (logCell b L')) : LX w0 w' b lb D L' T :=
  ⟨h.dx.next hk (fun i hi => by rw [hi]; exact ⟨h.new, h.far⟩), hc, h.new, h.far⟩
theorem good_le (t : Key) : good t ≤ t.length := Nat.sub_le _ _
theorem good_int (t : Key) : (t.length : Int) - ((scanAll t).2.1.length : Nat) = (good t : Nat) := by
  unfold good
  have := scanAll_left t
  omega
theorem recs_len (t : Key) : (recs t).length ≤ t.length := scanAll_count t
theorem Scan_g (l : Key) (w : World) (hl : l.length ≤ 1048576) (hT : Crc.TabOk w) :
    Calls Tryd.prog 25 #[.string (B l)] w fun e w' => ∃ v, e = .returned (.tuple #[v, .int .i64 (good l : Nat), .int .i64 ((scanAll l).2.2 : Nat)]) ∧ w'.ownsRow w.heap.size 9 1 v (recs l).length (strs (recs l)) ∧ Below w.heap.size w w' := by
  refine (Scan_calls l w hl hT).mono ?_
  rintro e w' ⟨v, he, h⟩
  rw [good_int] at he
  exact ⟨v, he, h⟩
end Go.Proofs.YtpiaplgbpjgjiaaDoor.Lg
