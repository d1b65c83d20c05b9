/-
  Logs (layer 8) on plain data: what each call does to the disk and to the log; a disk in memory beside other things. No condition.
-/
import Derived.Deep.RegionHeld3
import Derived.Test.YtpiaplgbpjgjiaaGreatDoorZDkB
import Derived.Test.YtpiaplgbpjgjiaaGreatDoorZFrame
import Derived.Test.YtpiaplgbpjgjiaaGreatDoorZBuild

section
open Go Go.RowKit
namespace Go.Proofs.YtpiaplgbpjgjiaaGreatDoor.Lg
open Base Mp Dk Frame

structure LogD where
  name : Key
  size : Nat
  count : Nat
  sure : Nat
  broken : Bool
/-- What a log makes of its disk's answer. -/
def toldL (L : LogD) (c : Int) : LogD := if c ≠ 0 ∧ c ≠ 6 then { L with broken := true } else L
def putRs (D : DiskD) (L : LogD) (rs : List Key) : DiskD × LogD × Int :=
  if L.broken = true then (D, L, 3) else if rs = [] then (D, L, 0) else
    if (appendD D L.name (puts rs)).2 = 0 then ((appendD D L.name (puts rs)).1, { L with size := L.size + (puts rs).length, count := L.count + rs.length }, 0)
    else ((appendD D L.name (puts rs)).1, toldL L (appendD D L.name (puts rs)).2, (appendD D L.name (puts rs)).2)
def keepL (D : DiskD) (L : LogD) : DiskD × LogD × Int :=
  if L.broken = true then (D, L, 3) else
    if (syncD D L.name).2 = 0 then ((syncD D L.name).1, { L with sure := L.count }, 0) else ((syncD D L.name).1, toldL L (syncD D L.name).2, (syncD D L.name).2)
/-- How many bytes of a text are whole frames. -/
def good (t : Key) : Nat := t.length - (scanAll t).2.1.length
def recs (t : Key) : List Key := (scanAll t).1
def fresh (n : Key) (t : Key) : LogD := ⟨n, good t, (recs t).length, (recs t).length, false⟩
/-- What is done behind the scan. -/
def mend (D : DiskD) (n t : Key) (created : Bool) : DiskD × Int :=
  if good t < t.length then cutD D n (good t : Int) else if created = true ∨ 0 < looseD D n then syncD D n else (D, 0)
def ends (n t : Key) (r : DiskD × Int) : DiskD × Option (LogD × List Key) × Int := if r.2 = 0 then (r.1, some (fresh n t, recs t), 0) else (r.1, none, r.2)
def openL (D : DiskD) (n : Key) : DiskD × Option (LogD × List Key) × Int :=
  match lookL D.files (keyS n) with
  | none => if (createD D n).2 = 0 then ends n [] (mend (createD D n).1 n [] true) else ((createD D n).1, none, (createD D n).2)
  | some F => ends n F.bytes (mend D n F.bytes false)
/-! In memory. -/
def logCell (b : Nat) (L : LogD) : Nat → Value
  | 0 => .pointer (some ⟨b, 0, none⟩)
  | 1 => .string (B L.name)
  | 2 => .int .i64 (L.size : Int)
  | 3 => .int .i64 (L.count : Int)
  | 4 => .int .i64 (L.sure : Int)
  | _ => .bool L.broken
/-- A disk of the call's own, its blocks told. -/
structure DX (w0 w : World) (b : Nat) (D : DiskD) (T : Nat → Prop) : Prop where
  below : Below w0.heap.size w0 w
  dk : DiskAt w b D T
  own : ∀ i, T i → w0.heap.size ≤ i
theorem DX.dw {w0 w : World} {b : Nat} {D : DiskD} {T : Nat → Prop} (h : DX w0 w b D T) : DW w0 w b D := ⟨h.below, T, h.dk, h.own⟩
theorem DX.old {w0 w : World} {b : Nat} {D : DiskD} {T : Nat → Prop} (h : DX w0 w b D T) : ∀ i, T i → i < w.heap.size := by
  obtain ⟨tag, blk, bm, hd⟩ := h.dk
  exact hd.old
theorem DX.fine {w0 w : World} {b : Nat} {D : DiskD} {T : Nat → Prop} (h : DX w0 w b D T) : Fine D := h.dw.fine
theorem dx_of {w0 w : World} {b : Nat} {D : DiskD} (h : DW w0 w b D) : ∃ T, DX w0 w b D T := by
  obtain ⟨hb, T, hd, hT⟩ := h
  exact ⟨T, hb, hd, hT⟩
theorem DX.op {w0 w : World} {b : Nat} {D : DiskD} {T : Nat → Prop} {P : Program} {f : FuncId} {args : Array Value} {r : DiskD × Int} (h : DX w0 w b D T) (c : Calls P f args w (OpPost w b T r)) :
    Calls P f args w fun e w' => e = .returned (.int .i64 r.2) ∧ DX w0 w' b r.1 (More T w w') ∧ Kept T w w' := by
  refine c.mono ?_
  rintro e w' ⟨he, h1, h2⟩
  refine ⟨he, ⟨h.below.trans (h2.below h.own h.below.size), h1, fun i hi => ?_⟩, h2⟩
  rcases hi with hi | hi
  · exact h.own i hi
  · exact Nat.le_trans h.below.size hi.1
theorem DX.later {w0 w w' : World} {b : Nat} {D : DiskD} {T : Nat → Prop} (h : DX w0 w b D T) (hk : Below w.heap.size w w') : DX w0 w' b D T :=
  ⟨h.below.trans (hk.mono h.below.size), h.dk.next (Kept.of_below hk), h.own⟩
theorem DX.next {w0 w w' : World} {b : Nat} {D : DiskD} {T X : Nat → Prop} (h : DX w0 w b D T) (hk : Kept X w w') (hX : ∀ i, X i → w0.heap.size ≤ i ∧ ¬ T i) : DX w0 w' b D T :=
  ⟨h.below.trans (hk.below (fun i hi => (hX i hi).1) h.below.size), h.dk.next (hk.mono fun i hi => (hX i hi).2), h.own⟩
/-- A log beside its disk. -/
structure LX (w0 w : World) (b lb : Nat) (D : DiskD) (L : LogD) (T : Nat → Prop) : Prop where
  dx : DX w0 w b D T
  log : CellsAt w lb 6 (logCell b L)
  new : w0.heap.size ≤ lb
  far : ¬ T lb
theorem LX.later {w0 w w' : World} {b lb : Nat} {D : DiskD} {L : LogD} {T : Nat → Prop} (h : LX w0 w b lb D L T) (hk : Below w.heap.size w w') : LX w0 w' b lb D L T :=
  ⟨h.dx.later hk, h.log.below hk (h.log.lt (by omega)), h.new, h.far⟩
theorem LX.next {w0 w w' : World} {b lb : Nat} {D : DiskD} {L : LogD} {T X : Nat → Prop} (h : LX w0 w b lb D L T) (hk : Kept X w w') (hX : ∀ i, X i → w0.heap.size ≤ i ∧ ¬ T i ∧ i ≠ lb) : LX w0 w' b lb D L T :=
  ⟨h.dx.next hk fun i hi => ⟨(hX i hi).1, (hX i hi).2.1⟩, h.log.kept hk (h.log.lt (by omega)) (fun hl => (hX lb hl).2.2 rfl), h.new, h.far⟩
/-- The disk was called. -/
theorem LX.disk {w0 w w' : World} {b lb : Nat} {D D' : DiskD} {L : LogD} {T : Nat → Prop} (h : LX w0 w b lb D L T) (hd : DX w0 w' b D' (More T w w')) (hk : Kept T w w') : LX w0 w' b lb D' L (More T w w') := by
  have hlt := h.log.lt (by omega)
  refine ⟨hd, h.log.kept hk hlt h.far, h.new, ?_⟩
  rintro (hi | hi)
  · exact h.far hi
  · omega
/-- The log's own cells turned. -/
theorem LX.turn {w0 w w' : World} {b lb : Nat} {D : DiskD} {L L' : LogD} {T : Nat → Prop} (h : LX w0 w b lb D L T) (hk : Kept (fun i => i = lb) w w') (hc : CellsAt w' lb 6 (logCell b L')) : LX w0 w' b lb D L' T :=
  ⟨h.dx.next hk (fun i hi => by rw [hi]; exact ⟨h.new, h.far⟩), hc, h.new, h.far⟩
theorem good_le (t : Key) : good t ≤ t.length := Nat.sub_le _ _
theorem good_int (t : Key) : (t.length : Int) - ((scanAll t).2.1.length : Nat) = (good t : Nat) := by
  unfold good
  have := scanAll_left t
  omega
theorem recs_len (t : Key) : (recs t).length ≤ t.length := scanAll_count t
theorem Scan_g (l : Key) (w : World) (hl : l.length ≤ 1048576) (hT : Crc.TabOk w) :
    Calls Tryz.prog 25 #[.string (B l)] w fun e w' => ∃ v, e = .returned (.tuple #[v, .int .i64 (good l : Nat), .int .i64 ((scanAll l).2.2 : Nat)]) ∧ w'.ownsRow w.heap.size 9 1 v (recs l).length (strs (recs l)) ∧ Below w.heap.size w w' := by
  refine (Scan_calls l w hl hT).mono ?_
  rintro e w' ⟨v, he, h⟩
  rw [good_int] at he
  exact ⟨v, he, h⟩
end Go.Proofs.YtpiaplgbpjgjiaaGreatDoor.Lg
end

/-
  Logs (layer 8): the walks of there, told, Len, Count, Sure; and a builder's Len. No condition.
-/
section
open Go Go.RowKit
namespace Go.Proofs.YtpiaplgbpjgjiaaGreatDoor.Lg
open Base Mp Dk Frame

theorem There_y {w : World} {lb b : Nat} {L : LogD} (h : CellsAt w lb 6 (logCell b L)) : Calls Tryz.prog 34 #[.pointer (some ⟨lb, 0, none⟩)] w fun e w' => e = .returned (.bool true) ∧ w = w' := by
  have c0 := (h 0 (by omega)).1
  simp only [logCell] at c0
  clear h
  go_enter Tryz.func34, Tryz.ntmps34
  go_wp2
  go_ret
  exact ⟨rfl, rfl⟩
theorem There_n (w : World) : Calls Tryz.prog 34 #[.pointer none] w fun e w' => e = .returned (.bool false) ∧ w = w' := by
  go_enter Tryz.func34, Tryz.ntmps34
  go_wp2
  go_ret
  exact ⟨rfl, rfl⟩
theorem told_ok (L : LogD) : toldL L 0 = L := by unfold toldL; rw [if_neg (by omega)]
theorem told_full (L : LogD) : toldL L 6 = L := by unfold toldL; rw [if_neg (by omega)]
theorem Told_f {w : World} {lb b : Nat} {L : LogD} (h : CellsAt w lb 6 (logCell b L)) (c : Int) : Calls Tryz.prog 37 #[.pointer (some ⟨lb, 0, none⟩), .int .i64 c] w fun e w' => e = .returned (.int .i64 c) ∧ CellsAt w' lb 6 (logCell b (toldL L c)) ∧ Kept (fun i => i = lb) w w' := by
  have H := Lib.hid h
  have c5 := (h 5 (by omega)).1
  have f5 := (h 5 (by omega)).2
  simp only [logCell] at c5
  clear h
  by_cases h0 : c = 0
  · subst h0
    rw [told_ok]
    go_enter Tryz.func37, Tryz.ntmps37
    go_wp2
    go_ret
    exact ⟨rfl, H.out, Kept.refl _ _⟩
  by_cases h6 : c = 6
  · subst h6
    rw [told_full]
    go_enter Tryz.func37, Tryz.ntmps37
    go_wp2
    go_ret
    exact ⟨rfl, H.out, Kept.refl _ _⟩
  have q0 : (c != 0) = true := by simpa using h0
  have q6 : (c != 6) = true := by simpa using h6
  have HE := Lib.hid (show toldL L c = { L with broken := true } by unfold toldL; rw [if_pos ⟨h0, h6⟩])
  clear h0 h6
  go_enter Tryz.func37, Tryz.ntmps37
  go_wp2
  go_ret
  rw [HE.out]
  refine ⟨rfl, (CellsAt.set H.out (i := 5) (by omega) (.bool true)).congr fun j hj => ?_, Kept.setCell (T := fun i => i = lb) (Kept.refl _ w) (.inl rfl) _⟩
  have : j = 0 ∨ j = 1 ∨ j = 2 ∨ j = 3 ∨ j = 4 ∨ j = 5 := by omega
  rcases this with rfl | rfl | rfl | rfl | rfl | rfl <;> rfl
theorem LLen_f {w : World} {lb b : Nat} {L : LogD} (h : CellsAt w lb 6 (logCell b L)) : Calls Tryz.prog 18 #[.pointer (some ⟨lb, 0, none⟩)] w fun e w' => e = .returned (.int .i64 (L.size : Int)) ∧ w = w' := by
  have HT := Lib.hid (There_y h)
  have c2 := (h 2 (by omega)).1
  simp only [logCell] at c2
  clear h
  go_enter Tryz.func18, Tryz.ntmps18
  go_wp2_with fail
  with_reducible refine HT.out.mono ?_
  rintro e w1 ⟨rfl, rfl⟩
  go_wp2
  go_ret
  exact ⟨rfl, rfl⟩
theorem LCount_f {w : World} {lb b : Nat} {L : LogD} (h : CellsAt w lb 6 (logCell b L)) : Calls Tryz.prog 20 #[.pointer (some ⟨lb, 0, none⟩)] w fun e w' => e = .returned (.int .i64 (L.count : Int)) ∧ w = w' := by
  have HT := Lib.hid (There_y h)
  have c2 := (h 3 (by omega)).1
  simp only [logCell] at c2
  clear h
  go_enter Tryz.func20, Tryz.ntmps20
  go_wp2_with fail
  with_reducible refine HT.out.mono ?_
  rintro e w1 ⟨rfl, rfl⟩
  go_wp2
  go_ret
  exact ⟨rfl, rfl⟩
theorem LSure_f {w : World} {lb b : Nat} {L : LogD} (h : CellsAt w lb 6 (logCell b L)) : Calls Tryz.prog 21 #[.pointer (some ⟨lb, 0, none⟩)] w fun e w' => e = .returned (.int .i64 (L.sure : Int)) ∧ w = w' := by
  have HT := Lib.hid (There_y h)
  have c2 := (h 4 (by omega)).1
  simp only [logCell] at c2
  clear h
  go_enter Tryz.func21, Tryz.ntmps21
  go_wp2_with fail
  with_reducible refine HT.out.mono ?_
  rintro e w1 ⟨rfl, rfl⟩
  go_wp2
  go_ret
  exact ⟨rfl, rfl⟩
theorem LLen_nil (w : World) : Calls Tryz.prog 18 #[.pointer none] w fun e w' => e = .returned (.int .i64 0) ∧ w = w' := by
  go_enter Tryz.func18, Tryz.ntmps18
  go_wp2_with (go_at_call 34; with_reducible refine (There_n _).mono ?_; rintro e w' ⟨rfl, rfl⟩)
  go_ret
  exact ⟨rfl, rfl⟩
theorem LCount_nil (w : World) : Calls Tryz.prog 20 #[.pointer none] w fun e w' => e = .returned (.int .i64 0) ∧ w = w' := by
  go_enter Tryz.func20, Tryz.ntmps20
  go_wp2_with (go_at_call 34; with_reducible refine (There_n _).mono ?_; rintro e w' ⟨rfl, rfl⟩)
  go_ret
  exact ⟨rfl, rfl⟩
theorem LSure_nil (w : World) : Calls Tryz.prog 21 #[.pointer none] w fun e w' => e = .returned (.int .i64 0) ∧ w = w' := by
  go_enter Tryz.func21, Tryz.ntmps21
  go_wp2_with (go_at_call 34; with_reducible refine (There_n _).mono ?_; rintro e w' ⟨rfl, rfl⟩)
  go_ret
  exact ⟨rfl, rfl⟩
theorem LAppend_nil (w : World) (v : Value) : Calls Tryz.prog 10 #[.pointer none, v] w fun e w' => e = .returned (.int .i64 1) ∧ w = w' := by
  go_enter Tryz.func10, Tryz.ntmps10
  go_wp2_with (go_at_call 34; with_reducible refine (There_n _).mono ?_; rintro e w' ⟨rfl, rfl⟩)
  go_ret
  exact ⟨rfl, rfl⟩
theorem LSync_nil (w : World) : Calls Tryz.prog 12 #[.pointer none] w fun e w' => e = .returned (.int .i64 1) ∧ w = w' := by
  go_enter Tryz.func12, Tryz.ntmps12
  go_wp2_with (go_at_call 34; with_reducible refine (There_n _).mono ?_; rintro e w' ⟨rfl, rfl⟩)
  go_ret
  exact ⟨rfl, rfl⟩
theorem LOpen_nil (w : World) (v : Value) : Calls Tryz.prog 8 #[.pointer none, v] w fun e w' => e = .returned (.tuple #[.pointer none, .slice none 0 0, .int .i64 1]) ∧ w = w' := by
  go_enter Tryz.func8, Tryz.ntmps8
  go_wp2_with (go_at_call 23; with_reducible refine (Read_nil _ _).mono ?_; rintro e w' ⟨rfl, rfl⟩)
  go_ret3
  exact ⟨rfl, rfl⟩
/-- A builder's String, with what Len will look at. -/
theorem BString_f {K b : Nat} {l : List UInt8} {w : World} (h : Lib.IsBuilder 76 5 K b (Lib.byteCells l) w) (h0 : l ≠ []) :
    Calls Tryz.prog 39 #[.pointer (some ⟨b, 0, none⟩)] w fun e w' => e = .returned (.string ⟨l.toArray⟩) ∧ (∃ q cp, w'.cell? ⟨b, 1, none⟩ = some (.slice q l.length cp)) ∧ Below K w w' := by
  refine (Any.Builder_String_f Bld.lays169 Bld.extra169 K b l w (Lib.IsBuilderF.of h) h0).mono ?_
  rintro e w' ⟨he, hf, hb⟩
  refine ⟨he, ?_, hb⟩
  obtain ⟨p, v, hv, ho⟩ : ∃ p v, w'.heap[b]? = some (.cells #[p, v] 76 (0, 0)) ∧ w'.ownsRowF K 5 1 v (Lib.byteCells l).length (Lib.byteCells l) := by
    rcases hf with ⟨_, v, h1, h2, _⟩ | ⟨_, v, h1, h2, _⟩
    · exact ⟨_, v, h1, h2⟩
    · exact ⟨_, v, h1, h2⟩
  rw [Lib.byteCells_length] at ho
  obtain ⟨_, ⟨rfl, h2⟩ | ⟨g, cap, cur, fz, rfl, _⟩⟩ := ho
  · exact ⟨none, 0, by rw [h2]; simp [World.cell?, hv]⟩
  · exact ⟨_, cap, by simp [World.cell?, hv]; rfl⟩
theorem BLen_c {b n cp : Nat} {q : Option Addr} {w : World} (c1 : w.cell? ⟨b, 1, none⟩ = some (.slice q n cp)) : Calls Tryz.prog 40 #[.pointer (some ⟨b, 0, none⟩)] w fun e w' => e = .returned (.int .i64 (n : Int)) ∧ w = w' := by
  go_enter Tryz.func40, Tryz.ntmps40
  go_wp2
  go_ret
  exact ⟨rfl, rfl⟩
end Go.Proofs.YtpiaplgbpjgjiaaGreatDoor.Lg
end

/-
  Logs (layer 8): the walk of Sync. Condition: the name is no longer than a string may be.
-/
section
open Go Go.RowKit
namespace Go.Proofs.YtpiaplgbpjgjiaaGreatDoor.Lg
open Base Mp Dk Frame

theorem more_self (T : Nat → Prop) (w : World) : More T w w = T := by
  funext i
  apply propext
  constructor
  · rintro (h | h)
    · exact h
    · omega
  · exact .inl
theorem told_name (L : LogD) (c : Int) : (toldL L c).name = L.name := by unfold toldL; split <;> rfl
theorem told_cells {w : World} {lb b : Nat} {L : LogD} {c : Int} (h : CellsAt w lb 6 (logCell b (toldL L c))) : w.cell? ⟨lb, 0, none⟩ = some (.pointer (some ⟨b, 0, none⟩)) ∧ w.cell? ⟨lb, 1, none⟩ = some (.string (B L.name)) := by
  refine ⟨(h 0 (by omega)).1, ?_⟩
  have := (h 1 (by omega)).1
  simp only [logCell, told_name] at this
  exact this
theorem told_zero (L : LogD) {c : Int} (h : c = 0) : toldL L c = L := by rw [h]; exact told_ok L
theorem two_kept {T : Nat → Prop} {lb : Nat} {w w3 w4 : World} (k3 : Kept T w w3) (k4 : Kept (fun i => i = lb) w3 w4) : Kept (fun i => T i ∨ i = lb) w w4 :=
  (k3.mono fun _ hi => .inl hi).trans (k4.mono (T' := fun i => T i ∨ i = lb) fun _ hi => .inr hi) (fun _ h => .inl h)
theorem undrew {T : Nat → Prop} {w w' : World} (h : Kept T w.drew w') : Kept T w w' := ⟨h.os, h.tape, h.output, h.size, h.block⟩
theorem DX.widen {w0 w w1 w' : World} {b : Nat} {D : DiskD} {T : Nat → Prop} (h : DX w0 w' b D (More T w w1)) (h1 : w1.heap.size ≤ w'.heap.size) (h2 : w0.heap.size ≤ w.heap.size) : DX w0 w' b D (More T w w') := by
  have ho := h.own
  have hold := h.old
  obtain ⟨hb, ⟨tag, blk, bm, hd⟩, _⟩ := h
  refine ⟨hb, ⟨tag, blk, bm, hd.wide (fun i hi => ?_) (fun i hi => ?_)⟩, fun i hi => ?_⟩
  · rcases hi with hi | hi
    · exact .inl hi
    · exact .inr ⟨hi.1, by omega⟩
  · rcases hi with hi | hi
    · exact hold i (.inl hi)
    · exact hi.2
  · rcases hi with hi | hi
    · exact ho i (.inl hi)
    · omega
theorem LX.widen {w0 w w1 w' : World} {b lb : Nat} {D : DiskD} {L : LogD} {T : Nat → Prop} (h : LX w0 w' b lb D L (More T w w1)) (h1 : w1.heap.size ≤ w'.heap.size) (h2 : w0.heap.size ≤ w.heap.size) (h3 : lb < w.heap.size) : LX w0 w' b lb D L (More T w w') :=
  ⟨h.dx.widen h1 h2, h.log, h.new, fun hi => by
    rcases hi with hi | hi
    · exact h.far (.inl hi)
    · omega⟩
theorem LX.wide {w0 w' : World} {b lb : Nat} {D : DiskD} {L : LogD} {T1 T2 : Nat → Prop} (h : LX w0 w' b lb D L T1) (h1 : ∀ i, T1 i → T2 i) (h2 : ∀ i, T2 i → w0.heap.size ≤ i ∧ i < w'.heap.size ∧ i ≠ lb) : LX w0 w' b lb D L T2 := by
  obtain ⟨⟨hb, ⟨tag, blk, bm, hd⟩, _⟩, hl, hn, _⟩ := h
  exact ⟨⟨hb, ⟨tag, blk, bm, hd.wide h1 (fun i hi => (h2 i hi).2.1)⟩, fun i hi => (h2 i hi).1⟩, hl, hn, fun hi => (h2 lb hi).2.2 rfl⟩
/-- A log's call: its answer, its state, and what it leaves. -/
def LPost (w0 w : World) (b lb : Nat) (T : Nat → Prop) (r : DiskD × LogD × Int) (e : Ending) (w' : World) : Prop := e = .returned (.int .i64 r.2.2) ∧ LX w0 w' b lb r.1 r.2.1 (More T w w') ∧ Kept (fun i => T i ∨ i = lb) w w'
set_option maxRecDepth 100000 in
set_option maxHeartbeats 2000000 in
theorem LSync_f {w0 w : World} {b lb : Nat} {D : DiskD} {L : LogD} {T : Nat → Prop} (h : LX w0 w b lb D L T) (hn : L.name.length ≤ maxLen) : Calls Tryz.prog 12 #[.pointer (some ⟨lb, 0, none⟩)] w (LPost w0 w b lb T (keepL D L)) := by
  have HT := Lib.hid (There_y h.log)
  have c0 := (h.log 0 (by omega)).1
  have c1 := (h.log 1 (by omega)).1
  have c5 := (h.log 5 (by omega)).1
  simp only [logCell] at c0 c1 c5
  have HX := Lib.hid h
  have hlt := lt_of_cell c0
  have HF := Lib.hid h.far
  by_cases hb : L.broken = true
  · have HE := Lib.hid (show keepL D L = (D, L, 3) by unfold keepL; rw [if_pos hb])
    rw [hb] at c5
    clear h hb
    go_enter Tryz.func12, Tryz.ntmps12
    go_wp2_with fail
    with_reducible refine HT.out.mono ?_
    rintro e w1 ⟨rfl, rfl⟩
    go_wp2
    go_ret
    rw [HE.out]
    exact ⟨rfl, by rw [more_self]; exact HX.out, Kept.refl _ _⟩
  have hb2 : L.broken = false := by simpa using hb
  rw [hb2] at c5
  have HS := Lib.hid ((h.later ((Below.refl w.heap.size w).drew)).dx.op (Sync_f (h.later ((Below.refl w.heap.size w).drew)).dx.dk L.name hn))
  by_cases hc : (syncD D L.name).2 = 0
  · have HE := Lib.hid (show keepL D L = ((syncD D L.name).1, { L with sure := L.count }, 0) by unfold keepL; rw [if_neg hb, if_pos hc])
    rw [hc] at HS
    clear h hb hb2 hc
    go_enter Tryz.func12, Tryz.ntmps12
    go_wp2_with fail
    with_reducible refine HT.out.mono ?_
    rintro e w1 ⟨rfl, rfl⟩
    go_wp2_with fail
    go_region_held3 (fun W => W.cell? ⟨lb, 0, none⟩ = some (.pointer (some ⟨b, 0, none⟩)) ∧ W.cell? ⟨lb, 1, none⟩ = some (.string (B L.name))) (first | go_keep | exact told_cells h4 | exact ⟨cell_kept (w := w.drew) c0 k3 HF.out, cell_kept (w := w.drew) c1 k3 HF.out⟩)
      (first
      | (go_at_call 28; with_reducible refine HS.out.mono ?_; rintro e w3 ⟨rfl, h3, k3⟩)
      | (go_at_call 37; with_reducible refine (Told_f (HX.out.disk h3 (undrew k3)).log _).mono ?_; rintro e w4 ⟨rfl, h4, k4⟩))
    rw [told_ok] at h4
    have H3 := Lib.hid ((HX.out.disk h3 (undrew k3)).turn k4 h4)
    have K4 := Lib.hid (two_kept (undrew k3) k4)
    have Z4 := Lib.hid (show w3.heap.size ≤ w4.heap.size from k4.size)
    have d3 := (h4 3 (by omega)).1
    have d4 := (h4 4 (by omega)).1
    have e4 := (h4 4 (by omega)).2
    simp only [logCell] at d3 d4
    have hl4 := lt_of_cell d4
    clear h3 k3 h4 k4 c0 c1 c5 HS HT
    go_wp2_with fail
    go_ret
    rw [HE.out]
    have hk : Kept (fun i => i = lb) w4 (w4.setCell ⟨lb, 4, none⟩ (.int .i64 (L.count : Int))) := Kept.setCell (T := fun i => i = lb) (Kept.refl _ w4) (.inl rfl) _
    have h5 := H3.out.turn hk (L' := { L with sure := L.count }) ((CellsAt.set H3.out.log (i := 4) (by omega) (.int .i64 (L.count : Int))).congr fun j hj => by
      have : j = 0 ∨ j = 1 ∨ j = 2 ∨ j = 3 ∨ j = 4 ∨ j = 5 := by omega
      rcases this with rfl | rfl | rfl | rfl | rfl | rfl <;> rfl)
    exact ⟨rfl, h5.widen (Nat.le_trans Z4.out hk.size) HX.out.dx.below.size hlt, K4.out.trans (hk.mono (T' := fun i => T i ∨ i = lb) fun _ hi => .inr hi) (fun _ h => .inl h)⟩
  · have HE := Lib.hid (show keepL D L = ((syncD D L.name).1, toldL L (syncD D L.name).2, (syncD D L.name).2) by unfold keepL; rw [if_neg hb, if_neg hc])
    generalize hcc : (syncD D L.name).2 = cc at *
    have hcb : (cc != 0) = true := by simpa using hc
    clear h hb hb2 hc hcc
    go_enter Tryz.func12, Tryz.ntmps12
    go_wp2_with fail
    with_reducible refine HT.out.mono ?_
    rintro e w1 ⟨rfl, rfl⟩
    go_wp2_with fail
    go_region_held3 (fun W => W.cell? ⟨lb, 0, none⟩ = some (.pointer (some ⟨b, 0, none⟩)) ∧ W.cell? ⟨lb, 1, none⟩ = some (.string (B L.name))) (first | go_keep | exact told_cells h4 | exact ⟨cell_kept (w := w.drew) c0 k3 HF.out, cell_kept (w := w.drew) c1 k3 HF.out⟩)
      (first
      | (go_at_call 28; with_reducible refine HS.out.mono ?_; rintro e w3 ⟨rfl, h3, k3⟩)
      | (go_at_call 37; with_reducible refine (Told_f (HX.out.disk h3 (undrew k3)).log _).mono ?_; rintro e w4 ⟨rfl, h4, k4⟩))
    have H3 := Lib.hid ((HX.out.disk h3 (undrew k3)).turn k4 h4)
    have K4 := Lib.hid (two_kept (undrew k3) k4)
    have Z4 := Lib.hid (show w3.heap.size ≤ w4.heap.size from k4.size)
    clear h3 k3 h4 k4 c0 c1 c5 HS HT
    go_wp2_with fail
    go_ret
    rw [HE.out]
    exact ⟨rfl, H3.out.widen Z4.out HX.out.dx.below.size hlt, K4.out⟩
end Go.Proofs.YtpiaplgbpjgjiaaGreatDoor.Lg
end

/-
  Logs (layer 8): the walk of Append. Conditions: the records lie in memory, none is longer than a frame may be; numbers are far from the reach's end; the sum's table is laid.
-/
section
open Go Go.RowKit
namespace Go.Proofs.YtpiaplgbpjgjiaaGreatDoor.Lg
open Base Mp Dk Frame

theorem builder_kept {T e : TypeId} {K b : Nat} {bs : List Value} {w w' : World} {X : Nat → Prop} (h : Lib.IsBuilder T e K b bs w) (hk : Kept X w w') (hX : ∀ i, X i → i < K) : Lib.IsBuilder T e K b bs w' := by
  have key : ∀ p, Lib.BuilderAt T e K b p bs w → Lib.BuilderAt T e K b p bs w' := by
    rintro p ⟨hB, v, hv, ho, hn⟩
    refine ⟨hB, v, ?_, ?_, hn⟩
    · rw [hk.block b ?_ (fun hx => by have := hX b hx; omega), hv]
      rcases Nat.lt_or_ge b w.heap.size with hh | hh
      · exact hh
      · rw [Array.getElem?_eq_none hh] at hv; cases hv
    · obtain ⟨hl, ⟨h1, h2⟩ | ⟨g, cap, cur, rfl, hg, hb, r⟩⟩ := ho
      · exact ⟨hl, .inl ⟨h1, h2⟩⟩
      · refine ⟨hl, .inr ⟨g, cap, cur, rfl, hg, ?_, r⟩⟩
        have hlt : g < w.heap.size := by
          rcases Nat.lt_or_ge g w.heap.size with h | h
          · exact h
          · rw [Array.getElem?_eq_none h] at hb; cases hb
        rw [hk.block g hlt (fun hx => by have := hX g hx; omega)]
        exact hb
  exact h.imp (key _) (key _)
theorem puts_take_succ (rs : List Key) (k : Nat) (h : k < rs.length) : puts (rs.take (k + 1)) = puts (rs.take k) ++ put rs[k] := by
  rw [List.take_succ_eq_append_getElem h]; exact puts_snoc _ _
theorem puts_take_le (rs : List Key) (k : Nat) : (puts (rs.take k)).length ≤ (puts rs).length := by
  conv => rhs; rw [← List.take_append_drop k rs]
  unfold puts
  rw [List.map_append, List.flatten_append, List.length_append]
  omega
theorem puts_len (rs : List Key) : rs.length ≤ (puts rs).length := by
  induction rs with
  | nil => simp [puts]
  | cons a r ih => rw [puts_cons, List.length_append, put_length, List.length_cons]; omega
/-- What Append asks of its records, and of the log's numbers. -/
structure PutOk (w : World) (p : Option Addr) (rs : List Key) (L : LogD) : Prop where
  row : RowArg w p (strs rs)
  short : ∀ r ∈ rs, r.length ≤ 1048576
  sum : (puts rs).length ≤ 1099511627776
  size : L.size ≤ 1099511627776
  count : L.count ≤ 1099511627776
  name : L.name.length ≤ maxLen
set_option maxRecDepth 100000 in
set_option maxHeartbeats 4000000 in
theorem LAppend_f {w0 w : World} {b lb : Nat} {D : DiskD} {L : LogD} {T : Nat → Prop} (h : LX w0 w b lb D L T) (hT : Crc.TabOk w0) (p : Option Addr) (cap : Nat) (rs : List Key) (hp : PutOk w p rs L) :
    Calls Tryz.prog 10 #[.pointer (some ⟨lb, 0, none⟩), .slice p rs.length cap] w (LPost w0 w b lb T (putRs D L rs)) := by
  have HT := Lib.hid (There_y h.log)
  have c0 := (h.log 0 (by omega)).1
  have c1 := (h.log 1 (by omega)).1
  have c5 := (h.log 5 (by omega)).1
  simp only [logCell] at c0 c1 c5
  have HX := Lib.hid h
  have hlt := lt_of_cell c0
  have HF := Lib.hid h.far
  have HP := Lib.hid hp
  have HTB := Lib.hid (hT.below hT.lt h.dx.below)
  have HTL := Lib.hid (Nat.lt_of_lt_of_le hT.lt h.dx.below.size)
  by_cases hb : L.broken = true
  · have HE := Lib.hid (show putRs D L rs = (D, L, 3) by unfold putRs; rw [if_pos hb])
    rw [hb] at c5
    clear h hb hp
    go_enter Tryz.func10, Tryz.ntmps10
    go_wp2_with fail
    with_reducible refine HT.out.mono ?_
    rintro e w1 ⟨rfl, rfl⟩
    go_wp2
    go_ret
    rw [HE.out]
    exact ⟨rfl, by rw [more_self]; exact HX.out, Kept.refl _ _⟩
  have hb2 : L.broken = false := by simpa using hb
  rw [hb2] at c5
  by_cases hrs : rs = []
  · have HE := Lib.hid (show putRs D L rs = (D, L, 0) by unfold putRs; rw [if_neg hb, if_pos hrs])
    subst hrs
    clear h hb hp
    go_enter Tryz.func10, Tryz.ntmps10
    go_wp2_with fail
    with_reducible refine HT.out.mono ?_
    rintro e w1 ⟨rfl, rfl⟩
    go_wp2
    go_ret
    rw [HE.out]
    exact ⟨rfl, by rw [more_self]; exact HX.out, Kept.refl _ _⟩
  have hr1 : 0 < rs.length := List.length_pos_iff.2 hrs
  have hr2 : ((rs.length : Int) == 0) = false := by
    rw [beq_eq_false_iff_ne]; omega
  have hr3 : rs.length ≤ 1099511627776 := Nat.le_trans (puts_len rs) hp.sum
  have h0 : Lib.IsBuilder 76 5 w.heap.size w.heap.size [] (w.alloc (.cells #[.pointer none, .slice none 0 0] 76)) := Lib.fresh_isBuilder _ _ w
  have hb0 : Below w.heap.size w (w.alloc (.cells #[.pointer none, .slice none 0 0] 76)) := (Below.refl _ w).alloc (Nat.le_refl _) _
  have HB0 := Lib.hid hb0
  have H0 := Lib.hid h0
  have HNB := Lib.hid hb
  have HNR := Lib.hid hrs
  clear h hp hb hrs h0 hb0 hr1
  go_enter Tryz.func10, Tryz.ntmps10
  go_wp2_with fail
  with_reducible refine HT.out.mono ?_
  rintro e w1 ⟨rfl, rfl⟩
  go_wp2_with fail
  obtain ⟨fb, hfb⟩ : ∃ fb, fb = w.heap.size := ⟨_, rfl⟩
  rw [← hfb]
  have H1 := Lib.hid (show Lib.IsBuilder 76 5 w.heap.size fb (Lib.byteCells (puts (rs.take 0))) (w.alloc (.cells #[.pointer none, .slice none 0 0] 76)) from by rw [hfb]; exact H0.out)
  clear H0 hfb
  generalize w.alloc (.cells #[.pointer none, .slice none 0 0] 76) = wa at *
  go_loopw [26] (fun u wr => ∃ k : Nat, u = .int .i64 (k : Int) ∧ k ≤ rs.length ∧ Lib.IsBuilder 76 5 w.heap.size fb (Lib.byteCells (puts (rs.take k))) wr ∧ Below w.heap.size w wr) (fun u _ => rs.length - (intOf u).toNat)
  case atStart => exact ⟨0, rfl, Nat.zero_le _, H1.out, HB0.out⟩
  case round =>
    obtain ⟨k, rfl, hk, hbl, hbe⟩ := hrel
    have HBL := Lib.hid hbl
    have HBE := Lib.hid hbe
    clear hbl hbe
    by_cases hkl : k < rs.length
    · have t1 : (k : Int) < (rs.length : Int) := by omega
      have t2 : 0 ≤ (k : Int) := by omega
      obtain ⟨bs, os, rfl, hbs, hc⟩ := HP.out.row k (by rw [strs_length]; exact hkl)
      rw [strs_at _ _ hkl] at hc
      have hcw : wr.cell? ⟨bs, os + k, none⟩ = some (.string (B rs[k])) := (HBE.out.cell (p := ⟨bs, os + k, none⟩) hbs).trans hc
      have HPC := Lib.hid (Put_calls rs[k] wr (HP.out.short _ (List.getElem_mem hkl)) (HTB.out.below HTL.out HBE.out))
      have HPS := Lib.hid (puts_take_succ rs k hkl)
      have HPL := Lib.hid (show (puts (rs.take k)).length + (put rs[k]).length ≤ 1099511627776 by
        have h1 := puts_take_le rs (k + 1)
        rw [puts_take_succ rs k hkl, List.length_append] at h1
        exact Nat.le_trans h1 HP.out.sum)
      clear hc
      generalize put rs[k] = pt at *
      generalize rs[k] = rk at *
      go_wp2_with fail
      with_reducible refine HPC.out.mono ?_
      rintro e w3 ⟨rfl, hb3⟩
      have hbe3 : Below w.heap.size w w3 := HBE.out.trans (hb3.mono HBE.out.size)
      have HWS := Lib.hid (Bld.WriteString w.heap.size fb (Lib.byteCells (puts (rs.take k))) (B pt) w3 (builder_kept HBL.out (Kept.of_below (T := fun _ => False) hb3) (fun _ h => h.elim)) (by rw [Lib.byteCells_length, B_size]; have := HPL.out; omega) hbe3.size)
      have HB3 := Lib.hid hbe3
      clear hb3 hbe3 HPC hcw
      go_wp2_with fail
      with_reducible refine HWS.out.mono ?_
      rintro e w4 ⟨rfl, hb4, hbe4⟩
      have HB4 := Lib.hid (show Lib.IsBuilder 76 5 w.heap.size fb (Lib.byteCells (puts (rs.take (k + 1)))) w4 from by rw [HPS.out, Lib.byteCells_append]; exact Or.inr hb4)
      have HE4 := Lib.hid (HB3.out.trans hbe4)
      clear hb4 hbe4 HWS
      go_wp2_with fail
      go_roundw
      case rel =>
        first
          | exact ⟨k + 1, by go_num, hkl, HB4.out, HE4.out⟩
          | ((repeat apply Exists.intro); exact ⟨⟨k + 1, by go_num, hkl, HB4.out, HE4.out⟩, rfl⟩)
      case measure => simp [intOf]; omega
    · obtain rfl : k = rs.length := by omega
      rw [List.take_length] at HBL
      have t1 : ¬ (rs.length : Int) < (rs.length : Int) := by omega
      have HXR := Lib.hid (HX.out.later HBE.out)
      have d0 := (HXR.out.log 0 (by omega)).1
      have d1 := (HXR.out.log 1 (by omega)).1
      simp only [logCell] at d0 d1
      have hpn : puts rs ≠ [] := fun e => by
        have := puts_len rs
        rw [e] at this
        exact HNR.out (List.length_eq_zero_iff.1 (by simpa using this))
      have HST := Lib.hid (BString_f (w := wr.drew) (builder_kept HBL.out (Kept.of_below (T := fun _ => False) ((Below.refl wr.heap.size wr).drew)) (fun _ h => h.elim)) hpn)
      clear hpn
      obtain ⟨cc, hcc⟩ : ∃ cc, cc = (appendD D L.name (puts rs)).2 := ⟨_, rfl⟩
      have HAC := Lib.hid (show ∀ W, Below w.heap.size w W → Calls Tryz.prog 38 #[.pointer (some ⟨b, 0, none⟩), .string (B L.name), .string ⟨(puts rs).toArray⟩] W fun e w' => e = .returned (.int .i64 cc) ∧ DX w0 w' b (appendD D L.name (puts rs)).1 (More T W w') ∧ Kept T W w' from fun W hW => by
        rw [hcc]
        exact (HX.out.later hW).dx.op (Append_f (HX.out.later hW).dx.dk L.name (puts rs) HP.out.name (Nat.le_trans HP.out.sum (by decide))))
      have HCC := Lib.hid hcc
      clear c5 hcc
      go_wp2_with fail
      go_region_held3 (fun W => W.cell? ⟨lb, 0, none⟩ = some (.pointer (some ⟨b, 0, none⟩)) ∧ W.cell? ⟨lb, 1, none⟩ = some (.string (B L.name))) (first | go_keep | exact told_cells h8 | exact ⟨cell_kept ((hb66.cell (p := ⟨lb, 0, none⟩) hlt).trans c0) k7 HF.out, cell_kept ((hb66.cell (p := ⟨lb, 1, none⟩) hlt).trans c1) k7 HF.out⟩ | exact ⟨(hb66.cell (p := ⟨lb, 0, none⟩) hlt).trans c0, (hb66.cell (p := ⟨lb, 1, none⟩) hlt).trans c1⟩)
        (first
        | (go_at_call 39; with_reducible refine HST.out.mono ?_; rintro e w6 ⟨rfl, ⟨qb, cb, hqb⟩, hb6⟩; have hb66 : Below w.heap.size w w6 := HBE.out.drew.trans hb6)
        | (go_at_call 38; with_reducible refine (HAC.out w6 hb66).mono ?_; rintro e w7 ⟨rfl, h7, k7⟩)
        | (go_at_call 37; with_reducible refine (Told_f ((HX.out.later hb66).disk h7 k7).log _).mono ?_; rintro e w8 ⟨rfl, h8, k8⟩))
      have H8 := Lib.hid (((HX.out.later hb66).disk h7 k7).turn k8 h8)
      have K8 := Lib.hid ((Kept.of_below (T := fun i => T i ∨ i = lb) hb66).trans (two_kept k7 k8) (fun _ h => .inl h))
      have Z8 := Lib.hid (And.intro hb66.size (And.intro k7.size k8.size))
      have HOLD := Lib.hid HX.out.dx.old
      have hfb2 : w.heap.size ≤ fb := by
        rcases HBL.out with h | h
        · exact h.1
        · exact h.1
      have hqb8 : w8.cell? ⟨fb, 1, none⟩ = some (.slice qb (puts rs).length cb) := cell_kept (cell_kept hqb k7 (fun h => by have := HOLD.out fb h; omega)) k8 (by show ¬ fb = lb; omega)
      have e2 := (h8 2 (by omega)).1
      have e3 := (h8 3 (by omega)).1
      have g2 := (h8 2 (by omega)).2
      have g3 := (h8 3 (by omega)).2
      have HN8 := Lib.hid (show ∀ T2, T2 = More T w w8 → ∀ i, More T w6 w7 i → More T w w8 i from fun _ _ i hi => by
        have := Z8.out
        rcases hi with hi | hi
        · exact .inl hi
        · exact .inr (by omega))
      by_cases hc : cc = 0
      · subst hc
        rw [told_ok] at H8
        simp only [told_ok, logCell] at e2 e3
        have HE := Lib.hid (show putRs D L rs = ((appendD D L.name (puts rs)).1, { L with size := L.size + (puts rs).length, count := L.count + rs.length }, 0) by unfold putRs; rw [if_neg HNB.out, if_neg HNR.out, if_pos HCC.out.symm])
        have HBN := Lib.hid (fun (W : World) (hc : W.cell? ⟨fb, 1, none⟩ = some (.slice qb (puts rs).length cb)) => BLen_c hc)
        have HQB := Lib.hid hqb8
        have z1 := HP.out.size
        have z2 := HP.out.sum
        have z3 := HP.out.count
        have hwr : IntKind.i64.wrap ((L.size : Int) + ((puts rs).length : Int)) = ((L.size + (puts rs).length : Nat) : Int) := by rw [IntKind.wrap_i64]; omega
        clear h7 k7 h8 k8 hqb hqb8 c0 c1 d0 d1 HST HAC HN8 hb6 hb66
        go_wp2_with fail
        go_region_with (first | (go_at_call 40; (with_reducible refine (HBN.out _ ?_).mono ?_); exact HQB.out; rintro e w9 ⟨rfl, rfl⟩))
        all_goals
          have hk9 : Kept (fun i => i = lb) w8 (w8.setCell ⟨lb, 2, none⟩ (.int .i64 ((L.size : Int) + ((puts rs).length : Int)))).drew := by
            have := Kept.setCell (T := fun i => i = lb) (p := ⟨lb, 2, none⟩) (Kept.refl _ w8) (.inl rfl) (.int .i64 ((L.size : Int) + ((puts rs).length : Int)))
            exact ⟨this.os, this.tape, this.output, this.size, this.block⟩
          have h9 := H8.out.turn hk9 (L' := { L with size := L.size + (puts rs).length }) ((CellsAt.set H8.out.log (i := 2) (by omega) (.int .i64 ((L.size : Int) + ((puts rs).length : Int)))).congr fun j hj => by
            have : j = 0 ∨ j = 1 ∨ j = 2 ∨ j = 3 ∨ j = 4 ∨ j = 5 := by omega
            rcases this with rfl | rfl | rfl | rfl | rfl | rfl
            · rfl
            · rfl
            · show Value.int .i64 _ = Value.int .i64 ((_ : Nat) : Int)
              rw [Int.natCast_add]
            · rfl
            · rfl
            · rfl)
          have H9 := Lib.hid h9
          have K9 := Lib.hid hk9
          have m3 := (h9.log 3 (by omega)).1
          have n3 := (h9.log 3 (by omega)).2
          simp only [logCell] at m3
          have hl9 := lt_of_cell m3
          have hwc : IntKind.i64.wrap ((L.count : Int) + (rs.length : Int)) = ((L.count + rs.length : Nat) : Int) := by rw [IntKind.wrap_i64]; omega
          clear hk9 h9 e2 e3 g2 g3 hwr
          generalize (w8.setCell ⟨lb, 2, none⟩ (.int .i64 ((L.size : Int) + ((puts rs).length : Int)))).drew = wz at *
          go_wp2_with fail
          go_ret
          rw [HE.out]
          have hk : Kept (fun i => i = lb) wz (wz.setCell ⟨lb, 3, none⟩ (.int .i64 ((L.count : Int) + (rs.length : Int)))) := Kept.setCell (T := fun i => i = lb) (Kept.refl _ wz) (.inl rfl) _
          have h10 := H9.out.turn hk (L' := { L with size := L.size + (puts rs).length, count := L.count + rs.length }) ((CellsAt.set H9.out.log (i := 3) (by omega) (.int .i64 ((L.count : Int) + (rs.length : Int)))).congr fun j hj => by
            have : j = 0 ∨ j = 1 ∨ j = 2 ∨ j = 3 ∨ j = 4 ∨ j = 5 := by omega
            rcases this with rfl | rfl | rfl | rfl | rfl | rfl
            · rfl
            · rfl
            · rfl
            · show Value.int .i64 _ = Value.int .i64 ((_ : Nat) : Int)
              rw [Int.natCast_add]
            · rfl
            · rfl)
          refine ⟨rfl, h10.wide (fun i hi => ?_) (fun i hi => ?_), (K8.out.trans (K9.out.mono (T' := fun i => T i ∨ i = lb) fun _ hi => .inr hi) (fun _ h => .inl h)).trans (hk.mono (T' := fun i => T i ∨ i = lb) fun _ hi => .inr hi) (fun _ h => .inl h)⟩
          · have z8 := Z8.out
            have z9 := K9.out.size
            have z10 := hk.size
            rcases hi with hi | hi
            · exact .inl hi
            · exact .inr (by omega)
          · have z8 := Z8.out
            have z9 := K9.out.size
            have z10 := hk.size
            have zz := HX.out.dx.below.size
            rcases hi with hi | hi
            · exact ⟨HX.out.dx.own i hi, by have := HOLD.out i hi; omega, fun e => HF.out (e ▸ hi)⟩
            · omega
      · have hcb : (cc != 0) = true := by simpa using hc
        have HE := Lib.hid (show putRs D L rs = ((appendD D L.name (puts rs)).1, toldL L cc, cc) by unfold putRs; rw [if_neg HNB.out, if_neg HNR.out, if_neg (by rw [← HCC.out]; exact hc), ← HCC.out])
        clear h7 k7 h8 k8 hqb hqb8 c0 c1 d0 d1 HST HAC HN8 hb6 hb66 hc
        go_wp2_with fail
        go_ret
        rw [HE.out]
        refine ⟨rfl, H8.out.wide (fun i hi => ?_) (fun i hi => ?_), K8.out⟩
        · have z8 := Z8.out
          rcases hi with hi | hi
          · exact .inl hi
          · exact .inr (by omega)
        · have z8 := Z8.out
          have zz := HX.out.dx.below.size
          rcases hi with hi | hi
          · exact ⟨HX.out.dx.own i hi, by have := HOLD.out i hi; omega, fun e => HF.out (e ▸ hi)⟩
          · omega
end Go.Proofs.YtpiaplgbpjgjiaaGreatDoor.Lg
end
