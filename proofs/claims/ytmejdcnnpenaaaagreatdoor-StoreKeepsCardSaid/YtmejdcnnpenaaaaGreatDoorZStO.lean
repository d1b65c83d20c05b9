/-
  Stores (layer 9) on plain data: what each call does to the disk and to the store; a store in memory beside its log and its disk. No condition.
-/
import Derived.BigQuiet
import Derived.Test.YtmejdcnnpenaaaaGreatDoorZStSteps
import Derived.Test.YtmejdcnnpenaaaaGreatDoorZLgOpen

section
open Go Go.RowKit
namespace Go.Proofs.YtmejdcnnpenaaaaGreatDoor.St
open Base Mp Dk Frame Lg

structure StoreD where
  log : LogD
  number : Nat
  broken : Bool
/-- The first step of Open. -/
def sureS (D : DiskD) (n : Nat) : DiskD × Int := if 0 < n ∧ 0 < looseD D (snapN n) then syncD D (snapN n) else (D, 0)
/-- What Open does once it knows the number. -/
def openN (D : DiskD) (n : Nat) : DiskD × Option (LogD × List Key) × Int :=
  if (sureS D n).2 ≠ 0 then ((sureS D n).1, none, (sureS D n).2) else
    if (cleanS (sureS D n).1 n).2 ≠ 0 then ((cleanS (sureS D n).1 n).1, none, (cleanS (sureS D n).1 n).2) else openL (cleanS (sureS D n).1 n).1 (logN n)
def openS (D : DiskD) : DiskD × Option (StoreD × Key × List Key) × Int :=
  ((openN D (findS D).1).1, (openN D (findS D).1).2.1.map fun p => (⟨p.1, (findS D).1, false⟩, (findS D).2, p.2), (openN D (findS D).1).2.2)
/-- The snapshot's file of the number m. -/
def writeM (D : DiskD) (n x : Key) : DiskD × Int × Bool :=
  if (createD D n).2 ≠ 0 then ((createD D n).1, (createD D n).2, false) else
    if (appendD (createD D n).1 n (put x)).2 ≠ 0 then ((appendD (createD D n).1 n (put x)).1, (appendD (createD D n).1 n (put x)).2, true) else
      ((syncD (appendD (createD D n).1 n (put x)).1 n).1, (syncD (appendD (createD D n).1 n (put x)).1 n).2, true)
def writeS (D : DiskD) (m : Nat) (x : Key) : DiskD × Int :=
  if (writeM D (snapN m) x).2.1 ≠ 0 ∧ (writeM D (snapN m) x).2.2 = true then ((removeD (writeM D (snapN m) x).1 (snapN m)).1, (writeM D (snapN m) x).2.1) else ((writeM D (snapN m) x).1, (writeM D (snapN m) x).2.1)
def oldS (D : DiskD) (n : Nat) : DiskD × Int := if n = 0 then (D, 0) else removeD D (snapN n)
def turnS (D : DiskD) (n m : Nat) : DiskD × Option LogD × Int :=
  match (openL D (logN m)).2.1 with
  | none => ((openL D (logN m)).1, none, (openL D (logN m)).2.2)
  | some (L, _) =>
    if (oldS (openL D (logN m)).1 n).2 ≠ 0 then ((oldS (openL D (logN m)).1 n).1, none, (oldS (openL D (logN m)).1 n).2) else
      if (removeD (oldS (openL D (logN m)).1 n).1 (logN n)).2 ≠ 0 then ((removeD (oldS (openL D (logN m)).1 n).1 (logN n)).1, none, (removeD (oldS (openL D (logN m)).1 n).1 (logN n)).2)
      else ((removeD (oldS (openL D (logN m)).1 n).1 (logN n)).1, some L, 0)
def toldS (S : StoreD) (c : Int) : StoreD := if c = 0 ∨ c = 6 ∨ c = 4 then S else { S with broken := true }
/-! The calls on plain data. -/
def putS (D : DiskD) (S : StoreD) (rs : List Key) : DiskD × StoreD × Int :=
  if S.broken = true then (D, S, 3) else ((putRs D S.log rs).1, toldS { S with log := (putRs D S.log rs).2.1 } (putRs D S.log rs).2.2, (putRs D S.log rs).2.2)
def keepS (D : DiskD) (S : StoreD) : DiskD × StoreD × Int :=
  if S.broken = true then (D, S, 3) else ((keepL D S.log).1, toldS { S with log := (keepL D S.log).2.1 } (keepL D S.log).2.2, (keepL D S.log).2.2)
def saveS (D : DiskD) (S : StoreD) (x : Key) : DiskD × StoreD × Int :=
  if S.broken = true then (D, S, 3) else
    if (writeS D (S.number + 1) x).2 ≠ 0 then ((writeS D (S.number + 1) x).1, toldS S (writeS D (S.number + 1) x).2, (writeS D (S.number + 1) x).2) else
      match (turnS (writeS D (S.number + 1) x).1 S.number (S.number + 1)).2.1 with
      | none => ((turnS (writeS D (S.number + 1) x).1 S.number (S.number + 1)).1, { S with broken := true }, (turnS (writeS D (S.number + 1) x).1 S.number (S.number + 1)).2.2)
      | some L => ((turnS (writeS D (S.number + 1) x).1 S.number (S.number + 1)).1, ⟨L, S.number + 1, false⟩, 0)
/-! In memory. -/
def storeCell (b lb : Nat) (S : StoreD) : Nat → Value
  | 0 => .pointer (some ⟨b, 0, none⟩)
  | 1 => .pointer (some ⟨lb, 0, none⟩)
  | 2 => .int .u64 (S.number : Int)
  | _ => .bool S.broken
/-- A store, its log and its disk: U has the blocks of all of them. -/
structure SAt (w0 w : World) (b sb lb : Nat) (D : DiskD) (S : StoreD) (T U : Nat → Prop) : Prop where
  lx : LX w0 w b lb D S.log T
  st : CellsAt w sb 4 (storeCell b lb S)
  far : ¬ T sb
  ne : sb ≠ lb
  sub : ∀ i, T i → U i
  ul : U lb
  us : U sb
  own : ∀ i, U i → w0.heap.size ≤ i ∧ i < w.heap.size
def SX (w0 w : World) (b sb : Nat) (D : DiskD) (S : StoreD) (U : Nat → Prop) : Prop := ∃ T lb, SAt w0 w b sb lb D S T U
/-- The tables that the program's start lays. -/
structure Laid (w : World) : Prop where
  tab : Crc.TabOk w
  pow : PowOk w
theorem Laid.next {w w' : World} (h : Laid w) (hb : Below w.heap.size w w') : Laid w' := ⟨h.tab.next hb, h.pow.next hb⟩
theorem Snap_f (n : Nat) (hn : n ≤ 18446744073709551615) (w : World) (hP : PowOk w) : Calls Tryz.prog 26 #[.string ⟨#[115, 110, 97, 112, 45]⟩, .int .u64 (n : Nat)] w fun e w' => e = .returned (.string (B (snapN n))) ∧ Below w.heap.size w w' := Name_f snaps (by decide) n hn w hP
theorem Log_f (n : Nat) (hn : n ≤ 18446744073709551615) (w : World) (hP : PowOk w) : Calls Tryz.prog 26 #[.string ⟨#[108, 111, 103, 45]⟩, .int .u64 (n : Nat)] w fun e w' => e = .returned (.string (B (logN n))) ∧ Below w.heap.size w w' := Name_f logs (by decide) n hn w hP
theorem snapN_len {n : Nat} (h : n ≤ 18446744073709551615) : (snapN n).length = 25 := by
  unfold snapN
  rw [List.length_append, dec20_len (by omega)]
  rfl
theorem logN_len {n : Nat} (h : n ≤ 18446744073709551615) : (logN n).length = 24 := by
  unfold logN
  rw [List.length_append, dec20_len (by omega)]
  rfl
end Go.Proofs.YtmejdcnnpenaaaaGreatDoor.St
end

/-
  Stores (layer 9): the walks of Open's three closures. Conditions: what each says.
-/
section
open Go Go.RowKit
namespace Go.Proofs.YtmejdcnnpenaaaaGreatDoor.St
open Base Mp Dk Frame Lg

theorem undrewB {w w' : World} (h : Below w.drew.heap.size w.drew w') : Below w.heap.size w w' := ⟨h.os, h.tape, h.output, h.size, h.block⟩
theorem CleanAt.refl {w0 w : World} {b : Nat} {D : DiskD} {T : Nat → Prop} (h : DX w0 w b D T) : CleanAt w0 w w b T D := ⟨⟨T, h, fun _ hi => .inl hi⟩, Kept.refl _ _⟩
theorem CleanAt.of {w0 w w1 w' : World} {b : Nat} {D' : DiskD} {T : Nat → Prop} (hb : Below w.heap.size w w1) (hx : DX w0 w' b D' (More T w1 w')) (hk : Kept T w1 w') : CleanAt w0 w w' b T D' :=
  (CleanAt.op (Kept.refl T w1) (fun _ hi => .inl hi) hx hk).back hb
set_option maxRecDepth 100000 in
theorem Open1_f {w0 w : World} {b : Nat} {D : DiskD} {T : Nat → Prop} (h : DX w0 w b D T) (hL : Laid w0) (n : Nat) (hn : n ≤ 18446744073709551609) {nb db : Nat} (hnb : w.cell? ⟨nb, 0, none⟩ = some (.int .u64 (n : Nat))) (hdb : w.cell? ⟨db, 0, none⟩ = some (.pointer (some ⟨b, 0, none⟩))) (tnb : ¬ T nb) (tdb : ¬ T db) :
    Calls Tryz.prog 24 #[.pointer (some ⟨nb, 0, none⟩), .pointer (some ⟨db, 0, none⟩)] w fun e w' => e = .returned (.int .i64 (sureS D n).2) ∧ CleanAt w0 w w' b T (sureS D n).1 := by
  have HX := Lib.hid h
  have HN := Lib.hid (fun W (hb : Below w.heap.size w W) => Snap_f n (by omega) W ((hL.next h.below).next hb).pow)
  have hnl := lt_of_cell hnb
  have hdl := lt_of_cell hdb
  by_cases h0 : 0 < n
  · have HLO := Lib.hid (fun W (h : DX w0 W b D T) => Loose_f h.dk (snapN n) (by rw [snapN_len (by omega)]; decide))
    have HSY := Lib.hid (fun W (h : DX w0 W b D T) => h.op (Sync_f h.dk (snapN n) (by rw [snapN_len (by omega)]; decide)))
    have g1 : decide (0 < n) = true := decide_eq_true h0
    have g5 : 0 < n := h0
    by_cases h1 : 0 < looseD D (snapN n)
    · have HE := Lib.hid (show sureS D n = syncD D (snapN n) from if_pos ⟨h0, h1⟩)
      have g3 : decide (0 < looseD D (snapN n)) = true := decide_eq_true h1
      have g4 : 0 < looseD D (snapN n) := h1
      clear h h1 h0
      generalize looseD D (snapN n) = lo at *
      obtain ⟨rd, hrd⟩ : ∃ rd, rd = syncD D (snapN n) := ⟨_, rfl⟩
      rw [← hrd] at HE HSY
      clear hrd
      obtain ⟨D2, c⟩ := rd
      simp only at HSY
      generalize snapN n = nm at *
      go_enter Tryz.func24, Tryz.ntmps24
      go_wp2_with fail
      go_region_held3 (fun W => W.cell? ⟨nb, 0, none⟩ = some (.int .u64 (n : Nat)) ∧ W.cell? ⟨db, 0, none⟩ = some (.pointer (some ⟨b, 0, none⟩))) (first | go_keep | exact ⟨((undrewB hb1).cell (p := ⟨nb, 0, none⟩) hnl).trans hnb, ((undrewB hb1).cell (p := ⟨db, 0, none⟩) hdl).trans hdb⟩)
        (first
        | (go_at_call 26; with_reducible refine (HN.out _ (Below.refl _ w).drew).mono ?_; rintro e w1 ⟨rfl, hb1⟩)
        | (go_at_call 25; with_reducible refine (HLO.out _ (HX.out.later (undrewB hb1))).mono ?_; rintro e w2 ⟨rfl, m, rfl⟩))
      have HB := Lib.hid ((undrewB hb1).trans (Below.drewN (Below.refl _ w1) m |>.mono (undrewB hb1).size))
      generalize w1.drewN m = w2 at *
      have hnb2 := (HB.out.cell (p := ⟨nb, 0, none⟩) hnl).trans hnb
      have hdb2 := (HB.out.cell (p := ⟨db, 0, none⟩) hdl).trans hdb
      have hnl2 := lt_of_cell hnb2
      have hdl2 := lt_of_cell hdb2
      clear hb1 hnl hdl hnb hdb
      go_wp2_with fail
      go_region_held3 (fun W => W.cell? ⟨nb, 0, none⟩ = some (.int .u64 (n : Nat)) ∧ W.cell? ⟨db, 0, none⟩ = some (.pointer (some ⟨b, 0, none⟩))) (first | go_keep | exact ⟨((undrewB hb1).cell (p := ⟨nb, 0, none⟩) hnl2).trans hnb2, ((undrewB hb1).cell (p := ⟨db, 0, none⟩) hdl2).trans hdb2⟩ | exact ⟨cell_kept (((undrewB hb1).cell (p := ⟨nb, 0, none⟩) hnl2).trans hnb2) k4 tnb, cell_kept (((undrewB hb1).cell (p := ⟨db, 0, none⟩) hdl2).trans hdb2) k4 tdb⟩)
        (first
        | (go_at_call 26; with_reducible refine (HN.out _ (HB.out.drew)).mono ?_; rintro e w3 ⟨rfl, hb1⟩)
        | (go_at_call 27; with_reducible refine (HSY.out _ (HX.out.later (HB.out.trans ((undrewB hb1).mono HB.out.size)))).mono ?_; rintro e w4 ⟨rfl, h4, k4⟩))
      have HB2 := Lib.hid (HB.out.trans ((undrewB hb1).mono HB.out.size))
      have H4 := Lib.hid h4
      have K4 := Lib.hid k4
      clear h4 k4 hb1 hnb2 hdb2 hnl2 hdl2
      go_wp2
      go_ret
      rw [HE.out]
      exact ⟨rfl, CleanAt.of HB2.out H4.out K4.out⟩
    · have HE := Lib.hid (show sureS D n = (D, 0) from if_neg fun e => h1 e.2)
      have g3 : decide (0 < looseD D (snapN n)) = false := decide_eq_false h1
      have g4 : ¬ 0 < looseD D (snapN n) := h1
      clear h h1 h0
      generalize looseD D (snapN n) = lo at *
      generalize snapN n = nm at *
      go_enter Tryz.func24, Tryz.ntmps24
      go_wp2_with fail
      go_region_held3 (fun W => W.cell? ⟨nb, 0, none⟩ = some (.int .u64 (n : Nat)) ∧ W.cell? ⟨db, 0, none⟩ = some (.pointer (some ⟨b, 0, none⟩))) (first | go_keep | exact ⟨((undrewB hb1).cell (p := ⟨nb, 0, none⟩) hnl).trans hnb, ((undrewB hb1).cell (p := ⟨db, 0, none⟩) hdl).trans hdb⟩)
        (first
        | (go_at_call 26; with_reducible refine (HN.out _ (Below.refl _ w).drew).mono ?_; rintro e w1 ⟨rfl, hb1⟩)
        | (go_at_call 25; with_reducible refine (HLO.out _ (HX.out.later (undrewB hb1))).mono ?_; rintro e w2 ⟨rfl, m, rfl⟩))
      have HB := Lib.hid ((undrewB hb1).trans (Below.drewN (Below.refl _ w1) m |>.mono (undrewB hb1).size))
      generalize w1.drewN m = w2 at *
      clear hb1 hnl hdl hnb hdb
      go_wp2
      go_ret
      rw [HE.out]
      exact ⟨rfl, (CleanAt.refl HX.out).later HB.out⟩
  · obtain rfl : n = 0 := by omega
    have HE := Lib.hid (show sureS D 0 = (D, 0) from if_neg fun e => by omega)
    have hnb0 : w.cell? ⟨nb, 0, none⟩ = some (.int .u64 0) := hnb
    clear h h0 hnb
    go_enter Tryz.func24, Tryz.ntmps24
    go_wp2_with fail
    go_quiet (fail)
    go_wp2
    go_ret
    rw [HE.out]
    exact ⟨rfl, (CleanAt.refl HX.out).later ((Below.refl _ _).drewN _)⟩
set_option maxRecDepth 100000 in
theorem Open2_f {w0 w : World} {b : Nat} {D : DiskD} {T : Nat → Prop} (h : DX w0 w b D T) (hM : ∀ f ∈ namesD D, Mine f) (n : Nat) (hn : n ≤ 18446744073709551609) {nb db : Nat} (hnb : w.cell? ⟨nb, 0, none⟩ = some (.int .u64 (n : Nat))) (hdb : w.cell? ⟨db, 0, none⟩ = some (.pointer (some ⟨b, 0, none⟩))) :
    Calls Tryz.prog 28 #[.pointer (some ⟨db, 0, none⟩), .pointer (some ⟨nb, 0, none⟩)] w fun e w' => e = .returned (.int .i64 (cleanS D n).2) ∧ CleanAt w0 w w' b T (cleanS D n).1 := by
  have C : Hid (Calls Tryz.prog 29 #[.pointer (some ⟨b, 0, none⟩), .int .u64 (n : Nat)] w fun e w' => e = .returned (.int .i64 (cleanS D n).2) ∧ CleanAt w0 w w' b T (cleanS D n).1) := Lib.hid (by
    by_cases h0 : 0 < n
    · exact Clean_f h hM n hn h0
    · obtain rfl : n = 0 := by omega
      exact Clean_0 h hM)
  clear h hM
  go_enter Tryz.func28, Tryz.ntmps28
  go_wp2_with fail
  with_reducible refine C.out.mono ?_
  rintro e w1 ⟨rfl, h1⟩
  have H1 := Lib.hid h1
  clear h1
  go_wp2
  go_ret
  exact ⟨rfl, H1.out⟩
/-- What the third closure leaves. -/
def Post3 (w0 w : World) (b lx rx : Nat) (T : Nat → Prop) (r : DiskD × Option (LogD × List Key) × Int) (e : Ending) (w' : World) : Prop :=
  e = .returned (.int .i64 r.2.2) ∧ ∃ T', (∀ i, T' i → T i ∨ w.heap.size ≤ i) ∧ DX w0 w' b r.1 T' ∧ Kept (fun i => T i ∨ i = lx ∨ i = rx) w w' ∧
    ((r.2.1 = none ∧ r.2.2 ≠ 0 ∧ ∃ u, CellsAt w' rx 1 (fun _ => u)) ∨
     ∃ L rs lb v, r.2.1 = some (L, rs) ∧ r.2.2 = 0 ∧ w'.cell? ⟨lx, 0, none⟩ = some (.pointer (some ⟨lb, 0, none⟩)) ∧ CellsAt w' rx 1 (fun _ => v) ∧ CellsAt w' lb 6 (logCell b L) ∧ w.heap.size ≤ lb ∧ ¬ T' lb ∧ w'.ownsRow w.heap.size 9 1 v rs.length (strs rs) ∧ ∀ k, v.ownBlock = some k → ¬ T' k ∧ k ≠ lb)
/-- What log.Open answers, its answer's form told. -/
structure Rest3 (w0 w : World) (b : Nat) (T : Nat → Prop) (r : DiskD × Option (LogD × List Key) × Int) (p v : Value) (w' : World) : Prop where
  kept : Kept T w w'
  is : ∃ T', (∀ i, T' i → T i ∨ w.heap.size ≤ i) ∧ DX w0 w' b r.1 T' ∧
    ((r.2.1 = none ∧ r.2.2 ≠ 0) ∨ ∃ L rs lb, r.2.1 = some (L, rs) ∧ r.2.2 = 0 ∧ p = .pointer (some ⟨lb, 0, none⟩) ∧ CellsAt w' lb 6 (logCell b L) ∧ w.heap.size ≤ lb ∧ ¬ T' lb ∧ w'.ownsRow w.heap.size 9 1 v rs.length (strs rs) ∧ ∀ k, v.ownBlock = some k → ¬ T' k ∧ k ≠ lb)
theorem LOpen_u {w0 w : World} {b : Nat} {D : DiskD} {T : Nat → Prop} (h : DX w0 w b D T) (hT : Crc.TabOk w0) (n : Key) (hn : n.length ≤ maxLen) (hro : D.room ≤ 1048576) :
    Calls Tryz.prog 31 #[.pointer (some ⟨b, 0, none⟩), .string (B n)] w fun e w' => ∃ p q m cap, e = .returned (.tuple #[.pointer p, .slice q m cap, .int .i64 (openL D n).2.2]) ∧ Rest3 w0 w b T (openL D n) (.pointer p) (.slice q m cap) w' := by
  refine (LOpen_f h hT n hn hro).mono ?_
  generalize openL D n = r
  rintro e w' ⟨T', h1, h2, h3, ⟨h4, h5, h6⟩ | ⟨L, rs, lb, v, h4, h5, h6, h7, h8, h9, h10, h11⟩⟩
  · exact ⟨_, _, _, _, h6, h3, T', h1, h2, .inl ⟨h4, h5⟩⟩
  · obtain ⟨q, cap, rfl, -⟩ := own_take h10 (Nat.le_refl _)
    exact ⟨_, _, _, _, by rw [h5]; exact h6, h3, T', h1, h2, .inr ⟨L, rs, lb, h4, h5, rfl, h7, h8, h9, h10, h11⟩⟩
/-- The two boxes laid. -/
theorem post3 {w0 w w1 w3 : World} {b lx rx : Nat} {T : Nat → Prop} {r : DiskD × Option (LogD × List Key) × Int} {p v : Value} (hb : Below w.heap.size w w1) (h : Rest3 w0 w1 b T r p v w3) (h00 : w0.heap.size ≤ lx) (h01 : w0.heap.size ≤ rx) (hlx : lx < w.heap.size) (hrx : rx < w.heap.size) (tlx : ¬ T lx) (trx : ¬ T rx) {w' : World} (hk : Kept (fun i => i = lx ∨ i = rx) w3 w') (c1 : w'.cell? ⟨lx, 0, none⟩ = some p) (c2 : CellsAt w' rx 1 (fun _ => v)) : Post3 w0 w b lx rx T r (.returned (.int .i64 r.2.2)) w' := by
  obtain ⟨h3, T', h1, h2, h4⟩ := h
  have hz1 := hb.size
  have hz3 := h3.size
  have tn : ∀ i, i = lx ∨ i = rx → ¬ T' i := fun i hi ht => by
    rcases h1 i ht with h | h
    · rcases hi with rfl | rfl
      · exact tlx h
      · exact trx h
    · rcases hi with rfl | rfl <;> omega
  refine ⟨rfl, T', fun i hi => (h1 i hi).imp id fun h => Nat.le_trans hz1 h, h2.next hk fun i hi => ⟨by rcases hi with rfl | rfl <;> assumption, tn i hi⟩, ?_, ?_⟩
  · exact (((Kept.of_below (T := T) hb).trans h3 fun _ h => .inl h).mono (T' := fun i => T i ∨ i = lx ∨ i = rx) (fun _ h => .inl h)).trans (hk.mono (T' := fun i => T i ∨ i = lx ∨ i = rx) fun _ h => .inr h) fun _ h => .inl h
  · rcases h4 with ⟨a1, a2⟩ | ⟨L, rs, lb, a1, a2, a3, a4, a5, a6, a7, a8⟩
    · exact .inl ⟨a1, a2, v, c2⟩
    · subst a3
      have hl1 : lb ≠ lx := by omega
      have hl2 : lb ≠ rx := by omega
      refine .inr ⟨L, rs, lb, v, a1, a2, c1, c2, a4.kept hk (a4.lt (by omega)) (by rintro (e | e); exact hl1 e; exact hl2 e), by omega, a6, own_lower (own_kept a7 hk fun k hk2 hi => ?_) hz1, a8⟩
      have := (a7.lt k hk2).1
      rcases hi with rfl | rfl <;> omega
set_option maxRecDepth 100000 in
set_option maxHeartbeats 8000000 in
theorem Open3_f {w0 w : World} {b : Nat} {D : DiskD} {T : Nat → Prop} (h : DX w0 w b D T) (hL : Laid w0) (hro : D.room ≤ 1048576) (n : Nat) (hn : n ≤ 18446744073709551609) {nb db lx rx : Nat} {lv rv : Value} (hnb : w.cell? ⟨nb, 0, none⟩ = some (.int .u64 (n : Nat))) (hdb : w.cell? ⟨db, 0, none⟩ = some (.pointer (some ⟨b, 0, none⟩))) (hlx : CellsAt w lx 1 (fun _ => lv)) (hrx : CellsAt w rx 1 (fun _ => rv))
    (tlx : ¬ T lx) (trx : ¬ T rx) (hne : lx ≠ rx) (h00 : w0.heap.size ≤ lx) (h01 : w0.heap.size ≤ rx) :
    Calls Tryz.prog 30 #[.pointer (some ⟨db, 0, none⟩), .pointer (some ⟨nb, 0, none⟩), .pointer (some ⟨lx, 0, none⟩), .pointer (some ⟨rx, 0, none⟩)] w (Post3 w0 w b lx rx T (openL D (logN n))) := by
  have HX := Lib.hid h
  have HN := Lib.hid (fun W (hb : Below w.heap.size w W) => Log_f n (by omega) W ((hL.next h.below).next hb).pow)
  have HO := Lib.hid (fun W (h : DX w0 W b D T) => LOpen_u h hL.tab (logN n) (by rw [logN_len (by omega)]; decide) hro)
  have hnl := lt_of_cell hnb
  have hdl := lt_of_cell hdb
  have hll := hlx.lt (by omega)
  have hrl := hrx.lt (by omega)
  generalize openL D (logN n) = r at *
  generalize logN n = nm at *
  clear h
  go_enter Tryz.func30, Tryz.ntmps30
  go_wp2_with fail
  have flx := (hlx 0 (by omega)).2
  have frx := (hrx 0 (by omega)).2
  go_region_with (first
    | (go_at_call 26; (with_reducible refine (HN.out _ (Below.refl _ w).drew).mono ?_); rintro e w1 ⟨rfl, hb1⟩; have x1 := ((undrewB hb1).cell (p := ⟨nb, 0, none⟩) hnl).trans hnb; have x2 := ((undrewB hb1).cell (p := ⟨db, 0, none⟩) hdl).trans hdb; have y1 := hlx.below (undrewB hb1) hll; have y2 := hrx.below (undrewB hb1) hrl)
    | (go_at_call 31; (with_reducible refine (HO.out _ (HX.out.later (undrewB hb1))).mono ?_); rintro e w2 ⟨p, q, m, cap, rfl, h2⟩; have z1 := y1.kept h2.kept (y1.lt (by omega)) tlx; have z2 := y2.kept h2.kept (y2.lt (by omega)) trx; have z3 := (z1 0 (by omega)).1; have z4 := (z1 0 (by omega)).2; have z5 := (z2 0 (by omega)).1; have z6 := (z2 0 (by omega)).2; have z7 := z1.lt (by omega); have z8 := z2.lt (by omega)))
  all_goals
    have HB1 := Lib.hid (undrewB hb1)
    have H2 := Lib.hid h2
    have Z1 := Lib.hid z1
    have Z2 := Lib.hid z2
    clear hb1 h2 z1 z2 z3 z4 z5 z6 x1 x2 y1 y2
    go_wp2
    go_ret
    refine post3 HB1.out H2.out h00 h01 hll hrl tlx trx (Kept.setCell (Kept.setCell (Kept.refl _ _) (.inl (.inl rfl)) _) (.inl (.inr rfl)) _) ?_ ?_
    · exact (((CellsAt.set Z1.out (i := 0) (by omega) _).other (b' := rx) (i := 0) (fun e => hne e.symm) _) 0 (by omega)).1
    · exact ((CellsAt.other Z2.out (b' := lx) (i := 0) hne _).set (i := 0) (by omega) _).congr fun j hj => (by
        obtain rfl : j = 0 := by omega
        rfl)
end Go.Proofs.YtmejdcnnpenaaaaGreatDoor.St
end

/-
  Stores (layer 9): the walk of Open. Conditions: the disk has a store's files alone; its room is no more than a scan takes; the tables are laid.
-/
section
open Go Go.RowKit
namespace Go.Proofs.YtmejdcnnpenaaaaGreatDoor.St
open Base Mp Dk Frame Lg

theorem set_keys (l : FS) (k : Lit) (F : FileD) : (setL l k F).map (fun p => Dk.strOf p.1) = l.map fun p => Dk.strOf p.1 := by
  unfold setL
  rw [List.map_map]
  refine List.map_congr_left fun p _ => ?_
  simp only [Function.comp]
  split <;> rfl
theorem sync_names (D : DiskD) (n : Key) : namesD (syncD D n).1 = namesD D := by
  unfold syncD opD
  split
  · rfl
  · split
    · rfl
    · unfold namesD
      rw [done_files]
      show srt ((setL D.files (keyS n) _).map _) = _
      rw [set_keys]
theorem sure_names (D : DiskD) (n : Nat) : namesD (sureS D n).1 = namesD D := by
  unfold sureS
  split
  · exact sync_names _ _
  · rfl
theorem sync_room (D : DiskD) (n : Key) : (syncD D n).1.room = D.room := op_room _ _ _ fun F => by rw [done_room]; rfl
theorem remove_room (D : DiskD) (n : Key) : (removeD D n).1.room = D.room := op_room _ _ _ fun F => by rw [done_room]
theorem sure_room (D : DiskD) (n : Nat) : (sureS D n).1.room = D.room := by
  unfold sureS
  split
  · exact sync_room _ _
  · rfl
theorem clean_room_ (n : Nat) (l : List Key) (st : DiskD × Int) : (l.foldl (clean1 n) st).1.room = st.1.room := by
  induction l generalizing st with
  | nil => rfl
  | cons f r ih =>
    rw [List.foldl_cons, ih]
    unfold clean1
    split
    · rfl
    · split
      · rfl
      · exact remove_room _ _
theorem clean_room (D : DiskD) (n : Nat) : (cleanS D n).1.room = D.room := clean_room_ n _ _
theorem num_le {h f : Key} {m : Nat} (e : numOf h f = some m) : m ≤ 18446744073709551609 := by
  unfold numOf at e
  split at e
  · split at e
    · split at e
      · next h => injection e with e; rw [← e]; exact h
      · cases e
    · cases e
  · cases e
theorem find_le_ (D : DiskD) (l : List Key) (st : Nat × Key) (h : st.1 ≤ 18446744073709551609) : (l.foldl (find1 D) st).1 ≤ 18446744073709551609 := by
  induction l generalizing st with
  | nil => exact h
  | cons f r ih =>
    rw [List.foldl_cons]
    refine ih _ ?_
    unfold find1
    split
    · exact h
    · next m hm =>
      split
      · exact h
      · split
        · exact h
        · exact num_le hm
theorem find_le (D : DiskD) : (findS D).1 ≤ 18446744073709551609 := find_le_ D _ _ (Nat.zero_le _)
theorem CleanAt.more {w0 w w1 w2 : World} {b : Nat} {D1 D2 : DiskD} {T : Nat → Prop} (h : CleanAt w0 w w1 b T D1) (c : ∀ T', DX w0 w1 b D1 T' → (∀ i, T' i → T i ∨ (w.heap.size ≤ i ∧ i < w1.heap.size)) → CleanAt w0 w1 w2 b T' D2) : CleanAt w0 w w2 b T D2 := by
  obtain ⟨⟨T', hx, hT⟩, hk⟩ := h
  obtain ⟨⟨T2, hx2, hT2⟩, hk2⟩ := c T' hx hT
  refine ⟨⟨T2, hx2, fun i hi => ?_⟩, hk.trans hk2 fun i hi => (hT i hi).imp id fun e => e.1⟩
  have := hk.size
  have := hk2.size
  rcases hT2 i hi with h | h
  · exact (hT i h).imp id fun e => ⟨e.1, by omega⟩
  · exact .inr ⟨by omega, h.2⟩
/-- What Open answers. -/
def SOpenPost (w0 w : World) (b : Nat) (T : Nat → Prop) (r : DiskD × Option (StoreD × Key × List Key) × Int) (e : Ending) (w' : World) : Prop :=
  ∃ T', (∀ i, T' i → T i ∨ w.heap.size ≤ i) ∧ Kept T w w' ∧
    ((r.2.1 = none ∧ r.2.2 ≠ 0 ∧ DX w0 w' b r.1 T' ∧ e = .returned (.tuple #[.pointer none, .string ⟨#[]⟩, .slice none 0 0, .int .i64 r.2.2])) ∨
     ∃ S t rs sb v, r.2.1 = some (S, t, rs) ∧ r.2.2 = 0 ∧ e = .returned (.tuple #[.pointer (some ⟨sb, 0, none⟩), .string (B t), v, .int .i64 0]) ∧ SX w0 w' b sb r.1 S T' ∧ w'.ownsRow w.heap.size 9 1 v rs.length (strs rs) ∧ ∀ k, v.ownBlock = some k → ¬ T' k)
/-- Behind the three steps. -/
structure Fell3 (w0 ws w' : World) (b lx rx : Nat) (T : Nat → Prop) (r : DiskD × Option (LogD × List Key) × Int) : Prop where
  is : ∃ T', (∀ i, T' i → T i ∨ ws.heap.size ≤ i) ∧ DX w0 w' b r.1 T'
  kept : Kept (fun i => T i ∨ i = lx ∨ i = rx) ws w'
  none : r.2.1 = none
  box : ∃ u, CellsAt w' rx 1 (fun _ => u)
structure Done3 (w0 ws w' : World) (b lx rx : Nat) (T : Nat → Prop) (r : DiskD × Option (LogD × List Key) × Int) (lb : Nat) (L : LogD) (rs : List Key) (v : Value) (T' : Nat → Prop) : Prop where
  sub : ∀ i, T' i → T i ∨ ws.heap.size ≤ i
  dx : DX w0 w' b r.1 T'
  kept : Kept (fun i => T i ∨ i = lx ∨ i = rx) ws w'
  log : r.2.1 = some (L, rs)
  ok : r.2.2 = 0
  cl : w'.cell? ⟨lx, 0, none⟩ = some (.pointer (some ⟨lb, 0, none⟩))
  cr : CellsAt w' rx 1 (fun _ => v)
  cells : CellsAt w' lb 6 (logCell b L)
  new : ws.heap.size ≤ lb
  far : ¬ T' lb
  row : w'.ownsRow ws.heap.size 9 1 v rs.length (strs rs)
  apart : ∀ k, v.ownBlock = some k → ¬ T' k ∧ k ≠ lb
def Out3 (w0 ws : World) (b lx rx : Nat) (T : Nat → Prop) (r : DiskD × Option (LogD × List Key) × Int) : Ending → World → Prop :=
  Step (fun w' => ∃ lb L rs v T', Done3 w0 ws w' b lx rx T r lb L rs v T') (fun c w' => c = r.2.2 ∧ Fell3 w0 ws w' b lx rx T r)
/-- The three closures, one behind the other. -/
theorem open_steps {w0 ws : World} {b : Nat} {D : DiskD} {T : Nat → Prop} (h : DX w0 ws b D T) (hL : Laid w0) (hM : ∀ f ∈ namesD D, Mine f) (hro : D.room ≤ 1048576) (n : Nat) (hn : n ≤ 18446744073709551609) {nb db lx rx g cap : Nat} {lv rv : Value} (hnb : ws.cell? ⟨nb, 0, none⟩ = some (.int .u64 (n : Nat))) (hdb : ws.cell? ⟨db, 0, none⟩ = some (.pointer (some ⟨b, 0, none⟩))) (hlx : CellsAt ws lx 1 (fun _ => lv)) (hrx : CellsAt ws rx 1 (fun _ => rv))
    (tnb : ¬ T nb) (tdb : ¬ T db) (tlx : ¬ T lx) (trx : ¬ T rx) (tg : ¬ T g) (hne : lx ≠ rx) (h00 : w0.heap.size ≤ lx) (h01 : w0.heap.size ≤ rx)
    (g1 : ws.cell? ⟨g, 0, none⟩ = some (.func (.func 24) #[] #[.pointer (some ⟨nb, 0, none⟩), .pointer (some ⟨db, 0, none⟩)]))
    (g2 : ws.cell? ⟨g, 1, none⟩ = some (.func (.func 28) #[] #[.pointer (some ⟨db, 0, none⟩), .pointer (some ⟨nb, 0, none⟩)]))
    (g3 : ws.cell? ⟨g, 2, none⟩ = some (.func (.func 30) #[] #[.pointer (some ⟨db, 0, none⟩), .pointer (some ⟨nb, 0, none⟩), .pointer (some ⟨lx, 0, none⟩), .pointer (some ⟨rx, 0, none⟩)])) :
    Calls Tryz.prog 23 #[.slice (some ⟨g, 0, none⟩) 3 cap] ws (Out3 w0 ws b lx rx T (openN D n)) := by
  have hnl := lt_of_cell hnb
  have hdl := lt_of_cell hdb
  have hll := hlx.lt (by omega)
  have hrl := hrx.lt (by omega)
  have hgl := lt_of_cell g1
  have hM1 : ∀ f ∈ namesD (sureS D n).1, Mine f := by rw [sure_names]; exact hM
  have hro2 : (cleanS (sureS D n).1 n).1.room ≤ 1048576 := by rw [clean_room, sure_room]; exact hro
  refine Steps3 (P1 := fun w' => (sureS D n).2 = 0 ∧ CleanAt w0 ws w' b T (sureS D n).1) (P2 := fun w' => (sureS D n).2 = 0 ∧ (cleanS (sureS D n).1 n).2 = 0 ∧ CleanAt w0 ws w' b T (cleanS (sureS D n).1 n).1)
    (P3 := fun w' => ∃ lb L rs v T', Done3 w0 ws w' b lx rx T (openN D n) lb L rs v T') (Q := fun c w' => c = (openN D n).2.2 ∧ Fell3 w0 ws w' b lx rx T (openN D n))
    (fun _ _ => by kernel_rfl) (fun _ _ => by kernel_rfl) (fun _ _ => by kernel_rfl) g1 (fun w' h => cell_kept g2 h.2.kept tg) (fun w' h => cell_kept g3 h.2.2.kept tg) ?_ ?_ ?_
  · refine (Open1_f h hL n hn hnb hdb tnb tdb).mono ?_
    rintro e w' ⟨rfl, hc⟩
    refine ⟨_, rfl, ?_⟩
    by_cases hz : (sureS D n).2 = 0
    · exact .inl ⟨hz, hz, hc⟩
    · have he : openN D n = ((sureS D n).1, none, (sureS D n).2) := if_pos hz
      refine .inr ⟨hz, by rw [he], ?_⟩
      obtain ⟨⟨T', hx, hT⟩, hk⟩ := hc
      exact ⟨by rw [he]; exact ⟨T', fun i hi => (hT i hi).imp id fun e => e.1, hx⟩, hk.mono fun _ h => .inl h, by rw [he], rv, hrx.kept hk hrl trx⟩
  · rintro w1 ⟨hz, hc⟩
    have hc' := hc
    obtain ⟨⟨T', hx, hT⟩, hk⟩ := hc
    have tT : ∀ i, i < ws.heap.size → ¬ T i → ¬ T' i := fun i hi ht h => by
      rcases hT i h with h | h
      · exact ht h
      · omega
    refine (Open2_f hx hM1 n hn (cell_kept hnb hk tnb) (cell_kept hdb hk tdb)).mono ?_
    rintro e w2 ⟨rfl, hc2⟩
    have hc3 : CleanAt w0 ws w2 b T (cleanS (sureS D n).1 n).1 := by
      obtain ⟨⟨T2, hx2, hT2⟩, hk2⟩ := hc2
      refine ⟨⟨T2, hx2, fun i hi => ?_⟩, hk.trans hk2 fun i hi => (hT i hi).imp id fun e => e.1⟩
      have := hk.size
      have := hk2.size
      rcases hT2 i hi with h | h
      · exact (hT i h).imp id fun e => ⟨e.1, by omega⟩
      · exact .inr ⟨by omega, h.2⟩
    refine ⟨_, rfl, ?_⟩
    by_cases hz2 : (cleanS (sureS D n).1 n).2 = 0
    · exact .inl ⟨hz2, hz, hz2, hc3⟩
    · have he : openN D n = ((cleanS (sureS D n).1 n).1, none, (cleanS (sureS D n).1 n).2) := by unfold openN; rw [if_neg (fun h => h hz), if_pos hz2]
      refine .inr ⟨hz2, by rw [he], ?_⟩
      obtain ⟨⟨T2, hx2, hT2⟩, hk2⟩ := hc3
      exact ⟨by rw [he]; exact ⟨T2, fun i hi => (hT2 i hi).imp id fun e => e.1, hx2⟩, hk2.mono fun _ h => .inl h, by rw [he], rv, hrx.kept hk2 hrl trx⟩
  · rintro w2 ⟨hz, hz2, ⟨⟨T2, hx2, hT2⟩, hk2⟩⟩
    have tT : ∀ i, i < ws.heap.size → ¬ T i → ¬ T2 i := fun i hi ht h => by
      rcases hT2 i h with h | h
      · exact ht h
      · omega
    have he : openN D n = openL (cleanS (sureS D n).1 n).1 (logN n) := by unfold openN; rw [if_neg (fun h => h hz), if_neg (fun h => h hz2)]
    rw [he]
    refine (Open3_f hx2 hL hro2 n hn (cell_kept hnb hk2 tnb) (cell_kept hdb hk2 tdb) (hlx.kept hk2 hll tlx) (hrx.kept hk2 hrl trx) (tT _ hll tlx) (tT _ hrl trx) hne h00 h01).mono ?_
    rintro e w3 ⟨rfl, T', a1, a2, a3, a4⟩
    have hz3 := hk2.size
    have s1 : ∀ i, T' i → T i ∨ ws.heap.size ≤ i := fun i hi => by
      rcases a1 i hi with h | h
      · exact (hT2 i h).imp id fun e => e.1
      · exact .inr (by omega)
    have s2 : Kept (fun i => T i ∨ i = lx ∨ i = rx) ws w3 := (hk2.mono (T' := fun i => T i ∨ i = lx ∨ i = rx) fun _ h => .inl h).trans a3 fun i hi => by
      rcases hi with hi | hi
      · exact (hT2 i hi).imp .inl fun e => e.1
      · exact .inl (.inr hi)
    refine ⟨_, rfl, ?_⟩
    rcases a4 with ⟨b1, b2, b3⟩ | ⟨L, rs, lb, v, b1, b2, b3, b4, b5, b6, b7, b8, b9⟩
    · exact .inr ⟨b2, rfl, ⟨T', s1, a2⟩, s2, b1, b3⟩
    · exact .inl ⟨b2, lb, L, rs, v, T', s1, a2, s2, b1, b2, b3, b4, b5, by omega, b7, own_lower b8 hz3, b9⟩
/-- The boxes, and the row of the three closures, ahead of the steps. -/
theorem open_cells {w w1 : World} {p z n k f1 f2 f3 : Value} {t1 t2 t3 t4 t5 : TypeId} (hb : Below ((w.alloc (.cells #[p] t1)).alloc (.cells #[z] t2)).heap.size ((w.alloc (.cells #[p] t1)).alloc (.cells #[z] t2)) w1) {ws : World} (hws : ws = ((w1.alloc (.cells #[n] t3)).alloc (.cells #[k] t4)).alloc (.cells #[f1, f2, f3] t5)) :
    Below w.heap.size w ws ∧ w.heap.size + 2 ≤ w1.heap.size ∧ ws.heap.size = w1.heap.size + 3 ∧ CellsAt ws w.heap.size 1 (fun _ => p) ∧ CellsAt ws (w.heap.size + 1) 1 (fun _ => z) ∧ CellsAt ws w1.heap.size 1 (fun _ => n) ∧ CellsAt ws (w1.heap.size + 1) 1 (fun _ => k) ∧
      ws.cell? ⟨w1.heap.size + 1 + 1, 0, none⟩ = some f1 ∧ ws.cell? ⟨w1.heap.size + 1 + 1, 1, none⟩ = some f2 ∧ ws.cell? ⟨w1.heap.size + 1 + 1, 2, none⟩ = some f3 := by
  have e1 := cells_made w #[p] t1
  have e2 := cells_made (w.alloc (.cells #[p] t1)) #[z] t2
  have e3 := cells_made w1 #[n] t3
  have e4 := cells_made (w1.alloc (.cells #[n] t3)) #[k] t4
  have e5 := cells_made ((w1.alloc (.cells #[n] t3)).alloc (.cells #[k] t4)) #[f1, f2, f3] t5
  have s1 := alloc_more w (.cells #[p] t1)
  have s2 := alloc_more (w.alloc (.cells #[p] t1)) (.cells #[z] t2)
  have s3 := alloc_more w1 (.cells #[n] t3)
  have s4 := alloc_more (w1.alloc (.cells #[n] t3)) (.cells #[k] t4)
  have s5 := alloc_more ((w1.alloc (.cells #[n] t3)).alloc (.cells #[k] t4)) (.cells #[f1, f2, f3] t5)
  have b1 : Below w.heap.size w (w.alloc (.cells #[p] t1)) := (Below.refl _ _).alloc (Nat.le_refl _) _
  have b2 : Below (w.alloc (.cells #[p] t1)).heap.size (w.alloc (.cells #[p] t1)) ((w.alloc (.cells #[p] t1)).alloc (.cells #[z] t2)) := (Below.refl _ _).alloc (Nat.le_refl _) _
  have b3 : Below w1.heap.size w1 (w1.alloc (.cells #[n] t3)) := (Below.refl _ _).alloc (Nat.le_refl _) _
  have b4 : Below (w1.alloc (.cells #[n] t3)).heap.size (w1.alloc (.cells #[n] t3)) ((w1.alloc (.cells #[n] t3)).alloc (.cells #[k] t4)) := (Below.refl _ _).alloc (Nat.le_refl _) _
  have b5 : Below ((w1.alloc (.cells #[n] t3)).alloc (.cells #[k] t4)).heap.size ((w1.alloc (.cells #[n] t3)).alloc (.cells #[k] t4)) ws := by rw [hws]; exact (Below.refl _ _).alloc (Nat.le_refl _) _
  rw [← hws] at e5 s5
  generalize ((w1.alloc (.cells #[n] t3)).alloc (.cells #[k] t4)) = w4 at *
  generalize w1.alloc (.cells #[n] t3) = w3 at *
  generalize (w.alloc (.cells #[p] t1)).alloc (.cells #[z] t2) = wb at *
  generalize w.alloc (.cells #[p] t1) = wa at *
  clear hws
  have z1 := hb.size
  have q1 : Below w1.heap.size w1 ws := (b3.trans (b4.mono b3.size)).trans (b5.mono (by omega))
  refine ⟨((b1.trans (b2.mono b1.size)).trans (hb.mono (by omega))).trans (q1.mono (by omega)), by omega, by omega, ?_, ?_, ?_, ?_, ?_, ?_, ?_⟩
  · exact ((((e1.below b2 (by omega)).below hb (by omega)).below q1 (by omega))).congr fun j hj => by
      have : j < 1 := hj
      obtain rfl : j = 0 := by omega
      rfl
  · rw [← s1]
    exact ((e2.below hb (by omega)).below q1 (by omega)).congr fun j hj => by
      have : j < 1 := hj
      obtain rfl : j = 0 := by omega
      rfl
  · exact (((e3.below b4 (by omega)).below b5 (by omega))).congr fun j hj => by
      have : j < 1 := hj
      obtain rfl : j = 0 := by omega
      rfl
  · rw [← s3]
    exact (e4.below b5 (by omega)).congr fun j hj => by
      have : j < 1 := hj
      obtain rfl : j = 0 := by omega
      rfl
  · rw [← s3, ← s4]; exact (e5 0 (by show 0 < 3; omega)).1
  · rw [← s3, ← s4]; exact (e5 1 (by show 1 < 3; omega)).1
  · rw [← s3, ← s4]; exact (e5 2 (by show 2 < 3; omega)).1
/-- The store is laid. -/
theorem open_done {w0 w ws w2 w' : World} {b lx rx lb n : Nat} {T T' : Nat → Prop} {r : DiskD × Option (LogD × List Key) × Int} {L : LogD} {rs : List Key} {v : Value} (hb : Below w.heap.size w ws) (h0 : w0.heap.size ≤ w.heap.size) (hx1 : w.heap.size ≤ lx ∧ lx < ws.heap.size) (hx2 : w.heap.size ≤ rx ∧ rx < ws.heap.size) (tn : ∀ i, T i → i < w.heap.size) (hd : Done3 w0 ws w2 b lx rx T r lb L rs v T') (hk : Kept (fun i => i = rx) w2 w') (hz : w'.heap.size = w2.heap.size + 1) (hc : CellsAt w' w2.heap.size 4 (storeCell b lb ⟨L, n, false⟩)) :
    ∃ T2, (∀ i, T2 i → T i ∨ w.heap.size ≤ i) ∧ Kept T w w' ∧ SX w0 w' b w2.heap.size r.1 ⟨L, n, false⟩ T2 ∧ w'.ownsRow w.heap.size 9 1 v rs.length (strs rs) ∧ ∀ k, v.ownBlock = some k → ¬ T2 k := by
  have z1 := hb.size
  have z2 := hd.kept.size
  have hold := hd.dx.old
  have hlb := hd.cells.lt (by omega)
  have tr : ¬ T' rx := fun h => by
    rcases hd.sub rx h with h | h
    · have := tn _ h; omega
    · omega
  have hln : lb ≠ rx := fun e => by have := hd.new; omega
  have hdx : DX w0 w' b r.1 T' := hd.dx.next hk fun i hi => by rw [hi]; exact ⟨by omega, tr⟩
  refine ⟨fun i => T' i ∨ i = lb ∨ i = w2.heap.size, fun i hi => ?_, ?_, ⟨T', lb, ⟨hdx, hd.cells.kept hk hlb hln, by have := hd.new; omega, hd.far⟩, hc, fun h => by have := hold _ h; omega, fun e => by omega, fun i hi => .inl hi, .inr (.inl rfl), .inr (.inr rfl), fun i hi => ?_⟩, ?_, fun k hk2 hi => ?_⟩
  · rcases hi with hi | rfl | rfl
    · rcases hd.sub i hi with h | h
      · exact .inl h
      · exact .inr (by omega)
    · exact .inr (by have := hd.new; omega)
    · exact .inr (by omega)
  · refine ((Kept.of_below (T := T) hb).trans hd.kept fun i hi => ?_).trans hk fun i hi => ?_
    · rcases hi with h | h | h
      · exact .inl h
      · exact .inr (by omega)
      · exact .inr (by omega)
    · exact .inr (by omega)
  · rcases hi with hi | rfl | rfl
    · exact ⟨hdx.own i hi, hdx.old i hi⟩
    · exact ⟨by have := hd.new; omega, by omega⟩
    · exact ⟨by omega, by omega⟩
  · refine own_lower (own_kept hd.row hk fun k hk2 e => ?_) z1
    have := (hd.row.lt k hk2).1
    omega
  · have h1 := hd.row.lt k hk2
    rcases hi with hi | e | e
    · exact (hd.apart k hk2).1 hi
    · exact (hd.apart k hk2).2 e
    · omega
theorem open_fell {w0 w ws w2 w' : World} {b lx rx : Nat} {T : Nat → Prop} {r : DiskD × Option (LogD × List Key) × Int} (hb : Below w.heap.size w ws) (h0 : w0.heap.size ≤ w.heap.size) (hx1 : w.heap.size ≤ lx ∧ lx < ws.heap.size) (hx2 : w.heap.size ≤ rx ∧ rx < ws.heap.size) (tn : ∀ i, T i → i < w.heap.size) (hd : Fell3 w0 ws w2 b lx rx T r) (hk : Kept (fun i => i = rx) w2 w') :
    ∃ T2, (∀ i, T2 i → T i ∨ w.heap.size ≤ i) ∧ Kept T w w' ∧ DX w0 w' b r.1 T2 := by
  have z1 := hb.size
  have z2 := hd.kept.size
  obtain ⟨T', h1, h2⟩ := hd.is
  have tr : ¬ T' rx := fun h => by
    rcases h1 rx h with h | h
    · have := tn _ h; omega
    · omega
  refine ⟨T', fun i hi => (h1 i hi).imp id fun h => by omega, ((Kept.of_below (T := T) hb).trans hd.kept fun i hi => ?_).trans hk fun i hi => ?_, h2.next hk fun i hi => by rw [hi]; exact ⟨by omega, tr⟩⟩
  · rcases hi with h | h | h
    · exact .inl h
    · exact .inr (by omega)
    · exact .inr (by omega)
  · exact .inr (by omega)
theorem results_t2ct {fn : Func} {t u p v : Tmp} {ty : TypeId} (h : fn.results = #[.tmp t, .tmp u, .cell p ty, .tmp v]) (tmps : Array Value) (P : Program) (w : World) (a : Addr) (hp : tmps.getD p undef = .pointer (some a)) (x : Value) (hx : (loadVar ty a).run P w = .ok x w) :
    (results fn tmps).run P w = .ok (.tuple #[tmps.getD t undef, tmps.getD u undef, x, tmps.getD v undef]) w := by
  have hp' : tmps[p]?.getD undef = .pointer (some a) := by simpa using hp
  simp [results, h, Result.andThen, hp', asAddr, hx]
theorem load_row {w : World} {x : Nat} {p : Option Addr} {n c : Nat} (h : w.cell? ⟨x, 0, none⟩ = some (.slice p n c)) : (loadVar 22 ⟨x, 0, none⟩).run Tryz.prog w = .ok (.slice p n c) w := by
  go_simp
set_option maxRecDepth 100000 in
set_option maxHeartbeats 8000000 in
theorem SOpen_f {w0 w : World} {b : Nat} {D : DiskD} {T : Nat → Prop} (h : DX w0 w b D T) (hL : Laid w0) (hM : ∀ f ∈ namesD D, Mine f) (hro : D.room ≤ 1048576) :
    Calls Tryz.prog 9 #[.pointer (some ⟨b, 0, none⟩)] w (SOpenPost w0 w b T (openS D)) := by
  have HX := Lib.hid h
  have HF := Lib.hid (fun W (hW : Below w.heap.size w W) => Find_f (h.later hW).dk hM ((hL.next h.below).next hW).tab)
  have HS := Lib.hid (fun ws (hW : Below w.heap.size w ws) => @open_steps w0 ws b D T (h.later hW) hL hM hro (findS D).1 (find_le D))
  have HE := Lib.hid (show openS D = ((openN D (findS D).1).1, (openN D (findS D).1).2.1.map fun p => (⟨p.1, (findS D).1, false⟩, (findS D).2, p.2), (openN D (findS D).1).2.2) from rfl)
  have HO := Lib.hid h.old
  have hn := find_le D
  clear h hM
  generalize (findS D).1 = n at *
  generalize (findS D).2 = t at *
  generalize openN D n = r at *
  go_enter Tryz.func9, Tryz.ntmps9
  go_wp2_with fail
  with_reducible refine (HF.out _ ?_).mono ?_
  · exact ((Below.refl _ _).alloc (Nat.le_refl _) _).alloc (by rw [alloc_more]; omega) _
  rintro e w1 ⟨rfl, hb1⟩
  have HB1 := Lib.hid hb1
  clear hb1 HF
  go_wp2_with fail
  obtain ⟨q1, q2, q3, q4, q5, q6, q7, q8, q9, qa⟩ := open_cells HB1.out (ws := _) rfl
  have q60 := (q6 0 (by omega)).1
  have q40 := (q4 0 (by omega)).1
  have hz0 := HX.out.below.size
  have tn : ∀ i, w.heap.size ≤ i → ¬ T i := fun i hi ht => by have := HO.out i ht; omega
  with_reducible refine (HS.out _ q1 q60 q40 q7 q5 (tn _ (by omega)) (tn _ (by omega)) (tn _ (by omega)) (tn _ (by omega)) (tn _ (by omega)) (by omega) (by omega) (by omega) q8 q9 qa).mono ?_
  have Q := Lib.hid (And.intro q1 (And.intro q2 (And.intro q3 (And.intro q4 q6))))
  have q5l := q5.lt (by omega)
  clear q1 q2 q3 q4 q5 q6 q7 q8 q9 qa q60 q40 hz0
  generalize (((w1.alloc (Obj.cells _ _)).alloc (Obj.cells _ _)).alloc (Obj.cells _ _)) = ws at *
  rintro e w2 ⟨c, rfl, ⟨rfl, lb, L, rs, v, T', hd⟩ | ⟨hc, hc2, hf⟩⟩
  · obtain ⟨p, cap, rfl, -⟩ := own_take hd.row (Nat.le_refl _)
    have HD := Lib.hid hd
    obtain ⟨q1, q2, q3, q4, q6⟩ := Q.out
    have k := hd.kept
    have nt : ∀ i, w.heap.size ≤ i → i ≠ w1.heap.size + 1 → i ≠ w.heap.size + 1 → ¬ (T i ∨ i = w1.heap.size + 1 ∨ i = w.heap.size + 1) := fun i hi h1 h2 h => by
      rcases h with h | h | h
      · exact tn i hi h
      · exact h1 h
      · exact h2 h
    have r4 := q4.kept k (by omega) (nt _ (Nat.le_refl _) (by omega) (by omega))
    have r6 := q6.kept k (by omega) (nt _ (by omega) (by omega) (by omega))
    have c1 := (r4 0 (by omega)).1
    have c2 := (r6 0 (by omega)).1
    have c3 := hd.cl
    have c4 := (hd.cr 0 (by omega)).1
    have c5 := (hd.cr 0 (by omega)).2
    have l1 := lt_of_cell c1
    have l2 := lt_of_cell c2
    have l3 := lt_of_cell c3
    have l4 := lt_of_cell c4
    have HT := Lib.hid (show ∀ i, T i → i < w.heap.size from HO.out)
    clear r4 r6 k hd tn nt q1 q2 q3 q4 q6 q5l HO HS
    go_wp2_with fail
    go_region
    go_wp2
    refine bodyPost_ret (results_t2ct rfl _ _ _ ⟨w.heap.size + 1, 0, none⟩ rfl (.slice p rs.length cap) (load_row ?_)) rfl ?_
    · exact (((Below.refl _ (w2.setCell ⟨w.heap.size + 1, 0, none⟩ (.slice p rs.length cap))).alloc (Nat.le_refl _) _).cell (p := ⟨w.heap.size + 1, 0, none⟩) (by rw [set_size]; exact l4)).trans ((CellsAt.set HD.out.cr (i := 0) (by omega) (.slice p rs.length cap)) 0 (by omega)).1
    obtain ⟨q1, q2, q3, q4, q6⟩ := Q.out
    have hmade := cells_made (w2.setCell ⟨w.heap.size + 1, 0, none⟩ (.slice p rs.length cap)) #[.pointer (some ⟨b, 0, none⟩), .pointer (some ⟨lb, 0, none⟩), .int .u64 (n : Nat), .bool false] 66
    have hm := alloc_more (w2.setCell ⟨w.heap.size + 1, 0, none⟩ (.slice p rs.length cap)) (.cells #[.pointer (some ⟨b, 0, none⟩), .pointer (some ⟨lb, 0, none⟩), .int .u64 (n : Nat), .bool false] 66)
    rw [set_size] at hmade hm
    obtain ⟨T2, a1, a2, a3, a4, a5⟩ := open_done (n := n) q1 HX.out.below.size ⟨by omega, by omega⟩ ⟨by omega, by omega⟩ HT.out HD.out (w' := World.drew _) ((Kept.setCell (p := ⟨w.heap.size + 1, 0, none⟩) (Kept.refl (fun i => i = w.heap.size + 1) w2) (.inl rfl) (.slice p rs.length cap)).trans (Kept.of_below (T := fun i => i = w.heap.size + 1) ((Below.refl _ _).alloc (Nat.le_refl _) _).drew) fun _ h => .inl h) hm (CellsAt.congr hmade fun j hj => by
      have : j < 4 := hj
      have : j = 0 ∨ j = 1 ∨ j = 2 ∨ j = 3 := by omega
      rcases this with rfl | rfl | rfl | rfl <;> rfl)
    rw [HE.out]
    exact ⟨T2, a1, a2, .inr ⟨_, t, rs, _, _, by rw [HD.out.log]; rfl, HD.out.ok, rfl, a3, a4, a5⟩⟩
  · obtain ⟨u, hbox⟩ := hf.box
    have HF := Lib.hid hf
    have HB := Lib.hid hbox
    have HC := Lib.hid hc
    have HC2 := Lib.hid hc2
    have q : (c != 0) = true := by simpa using hc
    have c4 := (hbox 0 (by omega)).1
    have c5 := (hbox 0 (by omega)).2
    have HT := Lib.hid (show ∀ i, T i → i < w.heap.size from HO.out)
    clear hf hc hc2 hbox tn q5l HO HS
    go_wp2
    refine bodyPost_ret (results_t2ct rfl _ _ _ ⟨w.heap.size + 1, 0, none⟩ rfl (.slice none 0 0) (load_row ?_)) rfl ?_
    · exact ((CellsAt.set HB.out (i := 0) (by omega) (.slice none 0 0)) 0 (by omega)).1
    obtain ⟨q1, q2, q3, q4, q6⟩ := Q.out
    obtain ⟨T2, a1, a2, a3⟩ := open_fell q1 HX.out.below.size ⟨by omega, by omega⟩ ⟨by omega, by omega⟩ HT.out HF.out (Kept.setCell (p := ⟨w.heap.size + 1, 0, none⟩) (Kept.refl (fun i => i = w.heap.size + 1) w2) (.inl rfl) (.slice none 0 0))
    rw [HE.out]
    exact ⟨T2, a1, a2, .inl ⟨by rw [HF.out.none]; rfl, by rw [← HC2.out]; exact HC.out, a3, by rw [HC2.out]; rfl⟩⟩
end Go.Proofs.YtmejdcnnpenaaaaGreatDoor.St
end

/-
  Stores (layer 9): the walks of there, ready, told, Number, Count, Sure, Len, Append, Sync. Conditions: what each says.
-/
section
open Go Go.RowKit
namespace Go.Proofs.YtmejdcnnpenaaaaGreatDoor.St
open Base Mp Dk Frame Lg

theorem SThere_y {w : World} {sb lb b : Nat} {S : StoreD} (h : CellsAt w sb 4 (storeCell b lb S)) : Calls Tryz.prog 37 #[.pointer (some ⟨sb, 0, none⟩)] w fun e w' => e = .returned (.bool true) ∧ w = w' := by
  have c0 := (h 0 (by omega)).1
  simp only [storeCell] at c0
  clear h
  go_enter Tryz.func37, Tryz.ntmps37
  go_wp2
  go_ret
  exact ⟨rfl, rfl⟩
theorem SThere_n (w : World) : Calls Tryz.prog 37 #[.pointer none] w fun e w' => e = .returned (.bool false) ∧ w = w' := by
  go_enter Tryz.func37, Tryz.ntmps37
  go_wp2
  go_ret
  exact ⟨rfl, rfl⟩
theorem SReady_y {w : World} {sb lb b : Nat} {S : StoreD} (h : CellsAt w sb 4 (storeCell b lb S)) : Calls Tryz.prog 32 #[.pointer (some ⟨sb, 0, none⟩)] w fun e w' => e = .returned (.int .i64 (if S.broken = true then 3 else 0)) ∧ w = w' := by
  have HT := Lib.hid (SThere_y h)
  have c3 := (h 3 (by omega)).1
  simp only [storeCell] at c3
  clear h
  cases hb : S.broken
  · rw [hb] at c3
    go_enter Tryz.func32, Tryz.ntmps32
    go_wp2_with fail
    with_reducible refine HT.out.mono ?_
    rintro e w1 ⟨rfl, rfl⟩
    go_wp2
    go_ret
    exact ⟨rfl, rfl⟩
  · rw [hb] at c3
    go_enter Tryz.func32, Tryz.ntmps32
    go_wp2_with fail
    with_reducible refine HT.out.mono ?_
    rintro e w1 ⟨rfl, rfl⟩
    go_wp2
    go_ret
    exact ⟨rfl, rfl⟩
theorem SReady_n (w : World) : Calls Tryz.prog 32 #[.pointer none] w fun e w' => e = .returned (.int .i64 1) ∧ w = w' := by
  have HT := Lib.hid (SThere_n w)
  go_enter Tryz.func32, Tryz.ntmps32
  go_wp2_with fail
  with_reducible refine HT.out.mono ?_
  rintro e w1 ⟨rfl, rfl⟩
  go_wp2
  go_ret
  exact ⟨rfl, rfl⟩
theorem STold_f {w : World} {sb lb b : Nat} {S : StoreD} (h : CellsAt w sb 4 (storeCell b lb S)) (c : Int) : Calls Tryz.prog 34 #[.pointer (some ⟨sb, 0, none⟩), .int .i64 c] w fun e w' => e = .returned (.int .i64 c) ∧ CellsAt w' sb 4 (storeCell b lb (toldS S c)) ∧ Kept (fun i => i = sb) w w' := by
  have H := Lib.hid h
  have c3 := (h 3 (by omega)).1
  have f3 := (h 3 (by omega)).2
  simp only [storeCell] at c3
  clear h
  by_cases hc : c = 0 ∨ c = 6 ∨ c = 4
  · have HE := Lib.hid (show toldS S c = S from if_pos hc)
    rcases hc with rfl | rfl | rfl <;>
    · go_enter Tryz.func34, Tryz.ntmps34
      go_wp2
      go_ret
      rw [HE.out]
      exact ⟨rfl, H.out, Kept.refl _ _⟩
  · have HE := Lib.hid (show toldS S c = { S with broken := true } from if_neg hc)
    have q0 : (c == 0) = false := by simp; intro e; exact hc (.inl e)
    have q6 : (c == 6) = false := by simp; intro e; exact hc (.inr (.inl e))
    have q4 : (c == 4) = false := by simp; intro e; exact hc (.inr (.inr e))
    clear hc
    go_enter Tryz.func34, Tryz.ntmps34
    go_wp2
    go_ret
    rw [HE.out]
    refine ⟨rfl, (CellsAt.set H.out (i := 3) (by omega) (.bool true)).congr fun j hj => ?_, Kept.setCell (T := fun i => i = sb) (Kept.refl _ w) (.inl rfl) _⟩
    have : j = 0 ∨ j = 1 ∨ j = 2 ∨ j = 3 := by omega
    rcases this with rfl | rfl | rfl | rfl <;> rfl
theorem SNumber_f {w : World} {sb lb b : Nat} {S : StoreD} (h : CellsAt w sb 4 (storeCell b lb S)) : Calls Tryz.prog 12 #[.pointer (some ⟨sb, 0, none⟩)] w fun e w' => e = .returned (.int .u64 (S.number : Int)) ∧ w = w' := by
  have HT := Lib.hid (SThere_y h)
  have c2 := (h 2 (by omega)).1
  simp only [storeCell] at c2
  clear h
  go_enter Tryz.func12, Tryz.ntmps12
  go_wp2_with fail
  with_reducible refine HT.out.mono ?_
  rintro e w1 ⟨rfl, rfl⟩
  go_wp2
  go_ret
  exact ⟨rfl, rfl⟩
theorem SNumber_n (w : World) : Calls Tryz.prog 12 #[.pointer none] w fun e w' => e = .returned (.int .u64 0) ∧ w = w' := by
  have HT := Lib.hid (SThere_n w)
  go_enter Tryz.func12, Tryz.ntmps12
  go_wp2_with fail
  with_reducible refine HT.out.mono ?_
  rintro e w1 ⟨rfl, rfl⟩
  go_wp2
  go_ret
  exact ⟨rfl, rfl⟩
theorem SCount_f {w : World} {sb lb b : Nat} {S : StoreD} (h : CellsAt w sb 4 (storeCell b lb S)) (hl : CellsAt w lb 6 (logCell b S.log)) : Calls Tryz.prog 13 #[.pointer (some ⟨sb, 0, none⟩)] w fun e w' => e = .returned (.int .i64 (S.log.count : Int)) ∧ w = w' := by
  have HT := Lib.hid (SThere_y h)
  have HL := Lib.hid (LCount_f hl)
  have c1 := (h 1 (by omega)).1
  simp only [storeCell] at c1
  clear h hl
  go_enter Tryz.func13, Tryz.ntmps13
  go_wp2_with fail
  with_reducible refine HT.out.mono ?_
  rintro e w1 ⟨rfl, rfl⟩
  go_wp2_with fail
  with_reducible refine HL.out.mono ?_
  rintro e w1 ⟨rfl, rfl⟩
  go_wp2
  go_ret
  exact ⟨rfl, rfl⟩
theorem SCount_n (w : World) : Calls Tryz.prog 13 #[.pointer none] w fun e w' => e = .returned (.int .i64 0) ∧ w = w' := by
  have HT := Lib.hid (SThere_n w)
  go_enter Tryz.func13, Tryz.ntmps13
  go_wp2_with fail
  with_reducible refine HT.out.mono ?_
  rintro e w1 ⟨rfl, rfl⟩
  go_wp2
  go_ret
  exact ⟨rfl, rfl⟩
theorem SSure_f {w : World} {sb lb b : Nat} {S : StoreD} (h : CellsAt w sb 4 (storeCell b lb S)) (hl : CellsAt w lb 6 (logCell b S.log)) : Calls Tryz.prog 19 #[.pointer (some ⟨sb, 0, none⟩)] w fun e w' => e = .returned (.int .i64 (S.log.sure : Int)) ∧ w = w' := by
  have HT := Lib.hid (SThere_y h)
  have HL := Lib.hid (LSure_f hl)
  have c1 := (h 1 (by omega)).1
  simp only [storeCell] at c1
  clear h hl
  go_enter Tryz.func19, Tryz.ntmps19
  go_wp2_with fail
  with_reducible refine HT.out.mono ?_
  rintro e w1 ⟨rfl, rfl⟩
  go_wp2_with fail
  with_reducible refine HL.out.mono ?_
  rintro e w1 ⟨rfl, rfl⟩
  go_wp2
  go_ret
  exact ⟨rfl, rfl⟩
theorem SSure_n (w : World) : Calls Tryz.prog 19 #[.pointer none] w fun e w' => e = .returned (.int .i64 0) ∧ w = w' := by
  have HT := Lib.hid (SThere_n w)
  go_enter Tryz.func19, Tryz.ntmps19
  go_wp2_with fail
  with_reducible refine HT.out.mono ?_
  rintro e w1 ⟨rfl, rfl⟩
  go_wp2
  go_ret
  exact ⟨rfl, rfl⟩
theorem SLen_f {w : World} {sb lb b : Nat} {S : StoreD} (h : CellsAt w sb 4 (storeCell b lb S)) (hl : CellsAt w lb 6 (logCell b S.log)) : Calls Tryz.prog 20 #[.pointer (some ⟨sb, 0, none⟩)] w fun e w' => e = .returned (.int .i64 (S.log.size : Int)) ∧ w = w' := by
  have HT := Lib.hid (SThere_y h)
  have HL := Lib.hid (LLen_f hl)
  have c1 := (h 1 (by omega)).1
  simp only [storeCell] at c1
  clear h hl
  go_enter Tryz.func20, Tryz.ntmps20
  go_wp2_with fail
  with_reducible refine HT.out.mono ?_
  rintro e w1 ⟨rfl, rfl⟩
  go_wp2_with fail
  with_reducible refine HL.out.mono ?_
  rintro e w1 ⟨rfl, rfl⟩
  go_wp2
  go_ret
  exact ⟨rfl, rfl⟩
theorem SLen_n (w : World) : Calls Tryz.prog 20 #[.pointer none] w fun e w' => e = .returned (.int .i64 0) ∧ w = w' := by
  have HT := Lib.hid (SThere_n w)
  go_enter Tryz.func20, Tryz.ntmps20
  go_wp2_with fail
  with_reducible refine HT.out.mono ?_
  rintro e w1 ⟨rfl, rfl⟩
  go_wp2
  go_ret
  exact ⟨rfl, rfl⟩
/-- A store's call: its answer, its state, and what it leaves. -/
def SPost (w0 w : World) (b sb : Nat) (U : Nat → Prop) (r : DiskD × StoreD × Int) (e : Ending) (w' : World) : Prop := e = .returned (.int .i64 r.2.2) ∧ SX w0 w' b sb r.1 r.2.1 (More U w w') ∧ Kept U w w'
/-- The log was called, and told. -/
theorem s_log {w0 w w1 w2 : World} {b sb lb : Nat} {D D1 : DiskD} {S : StoreD} {L1 : LogD} {T U : Nat → Prop} {c : Int} (h : SAt w0 w b sb lb D S T U) (hx : LX w0 w1 b lb D1 L1 (More T w w1)) (k1 : Kept (fun i => T i ∨ i = lb) w w1) (hc : CellsAt w2 sb 4 (storeCell b lb (toldS { S with log := L1 } c))) (k2 : Kept (fun i => i = sb) w1 w2) : SX w0 w2 b sb D1 (toldS { S with log := L1 } c) (More U w w2) ∧ Kept U w w2 := by
  have hsl := h.st.lt (by omega)
  have hll := h.lx.log.lt (by omega)
  have z1 := k1.size
  have z2 := k2.size
  have h0 := (h.own sb h.us).1
  have z0 := h.lx.dx.below.size
  have tl : (toldS { S with log := L1 } c).log = L1 := by unfold toldS; split <;> rfl
  have hns : ¬ More T w w1 sb := fun e => by
    rcases e with e | e
    · exact h.far e
    · omega
  refine ⟨⟨More T w w1, lb, by rw [tl]; exact hx.next k2 fun i hi => by rw [hi]; exact ⟨h0, hns, h.ne⟩, hc, hns, h.ne, fun i hi => ?_, .inl h.ul, .inl h.us, fun i hi => ?_⟩, ?_⟩
  · rcases hi with hi | hi
    · exact .inl (h.sub i hi)
    · exact .inr ⟨hi.1, by omega⟩
  · rcases hi with hi | hi
    · have := h.own i hi; exact ⟨this.1, by omega⟩
    · exact ⟨by omega, hi.2⟩
  · refine (k1.mono fun i hi => ?_).trans k2 fun i hi => ?_
    · rcases hi with hi | hi
      · exact h.sub i hi
      · rw [hi]; exact h.ul
    · rw [hi]; exact .inl h.us
set_option maxRecDepth 100000 in
theorem SAppend_f {w0 w : World} {b sb : Nat} {D : DiskD} {S : StoreD} {U : Nat → Prop} (h : SX w0 w b sb D S U) (hL : Laid w0) (p : Option Addr) (cap : Nat) (rs : List Key) (hp : PutOk w p rs S.log) :
    Calls Tryz.prog 11 #[.pointer (some ⟨sb, 0, none⟩), .slice p rs.length cap] w (SPost w0 w b sb U (putS D S rs)) := by
  obtain ⟨T, lb, h⟩ := h
  have HR := Lib.hid (SReady_y h.st)
  have c1 := (h.st 1 (by omega)).1
  simp only [storeCell] at c1
  have H := Lib.hid h
  by_cases hb : S.broken = true
  · have HE := Lib.hid (show putS D S rs = (D, S, 3) from if_pos hb)
    rw [if_pos hb] at HR
    clear h hb hp
    go_enter Tryz.func11, Tryz.ntmps11
    go_wp2_with fail
    with_reducible refine HR.out.mono ?_
    rintro e w1 ⟨rfl, rfl⟩
    go_wp2
    go_ret
    rw [HE.out]
    exact ⟨rfl, by rw [more_self]; exact ⟨T, lb, H.out⟩, Kept.refl _ _⟩
  · have HE := Lib.hid (show putS D S rs = ((putRs D S.log rs).1, toldS { S with log := (putRs D S.log rs).2.1 } (putRs D S.log rs).2.2, (putRs D S.log rs).2.2) from if_neg hb)
    rw [if_neg hb] at HR
    have HA := Lib.hid (LAppend_f h.lx hL.tab p cap rs hp)
    have hst := Lib.hid h.st
    clear h hb hp
    generalize putRs D S.log rs = r at *
    obtain ⟨D1, L1, c⟩ := r
    go_enter Tryz.func11, Tryz.ntmps11
    go_wp2_with fail
    with_reducible refine HR.out.mono ?_
    rintro e w1 ⟨rfl, rfl⟩
    go_wp2_with fail
    with_reducible refine HA.out.mono ?_
    rintro e w2 ⟨rfl, h2, k2⟩
    have HS := Lib.hid (show CellsAt w2 sb 4 (storeCell b lb { S with log := L1 }) from hst.out.kept k2 (hst.out.lt (by omega)) (fun e => by rcases e with e | e; exact H.out.far e; exact H.out.ne e))
    have H2 := Lib.hid h2
    have K2 := Lib.hid k2
    clear h2 k2 HA HR
    simp only at H2
    go_wp2_with fail
    with_reducible refine (STold_f HS.out _).mono ?_
    rintro e w3 ⟨rfl, h3, k3⟩
    have H3 := Lib.hid h3
    have K3 := Lib.hid k3
    clear h3 k3
    go_wp2
    go_ret
    rw [HE.out]
    exact ⟨rfl, s_log H.out H2.out K2.out H3.out K3.out⟩
set_option maxRecDepth 100000 in
theorem SSync_f {w0 w : World} {b sb : Nat} {D : DiskD} {S : StoreD} {U : Nat → Prop} (h : SX w0 w b sb D S U) (hn : S.log.name.length ≤ maxLen) :
    Calls Tryz.prog 16 #[.pointer (some ⟨sb, 0, none⟩)] w (SPost w0 w b sb U (keepS D S)) := by
  obtain ⟨T, lb, h⟩ := h
  have HR := Lib.hid (SReady_y h.st)
  have c1 := (h.st 1 (by omega)).1
  simp only [storeCell] at c1
  have H := Lib.hid h
  by_cases hb : S.broken = true
  · have HE := Lib.hid (show keepS D S = (D, S, 3) from if_pos hb)
    rw [if_pos hb] at HR
    clear h hb
    go_enter Tryz.func16, Tryz.ntmps16
    go_wp2_with fail
    with_reducible refine HR.out.mono ?_
    rintro e w1 ⟨rfl, rfl⟩
    go_wp2
    go_ret
    rw [HE.out]
    exact ⟨rfl, by rw [more_self]; exact ⟨T, lb, H.out⟩, Kept.refl _ _⟩
  · have HE := Lib.hid (show keepS D S = ((keepL D S.log).1, toldS { S with log := (keepL D S.log).2.1 } (keepL D S.log).2.2, (keepL D S.log).2.2) from if_neg hb)
    rw [if_neg hb] at HR
    have HA := Lib.hid (LSync_f h.lx hn)
    have hst := Lib.hid h.st
    clear h hb
    generalize keepL D S.log = r at *
    obtain ⟨D1, L1, c⟩ := r
    go_enter Tryz.func16, Tryz.ntmps16
    go_wp2_with fail
    with_reducible refine HR.out.mono ?_
    rintro e w1 ⟨rfl, rfl⟩
    go_wp2_with fail
    with_reducible refine HA.out.mono ?_
    rintro e w2 ⟨rfl, h2, k2⟩
    have HS := Lib.hid (show CellsAt w2 sb 4 (storeCell b lb { S with log := L1 }) from hst.out.kept k2 (hst.out.lt (by omega)) (fun e => by rcases e with e | e; exact H.out.far e; exact H.out.ne e))
    have H2 := Lib.hid h2
    have K2 := Lib.hid k2
    clear h2 k2 HA HR
    simp only at H2
    go_wp2_with fail
    with_reducible refine (STold_f HS.out _).mono ?_
    rintro e w3 ⟨rfl, h3, k3⟩
    have H3 := Lib.hid h3
    have K3 := Lib.hid k3
    clear h3 k3
    go_wp2
    go_ret
    rw [HE.out]
    exact ⟨rfl, s_log H.out H2.out K2.out H3.out K3.out⟩
theorem SAppend_n (w : World) (v : Value) : Calls Tryz.prog 11 #[.pointer none, v] w fun e w' => e = .returned (.int .i64 1) ∧ w = w' := by
  have HT := Lib.hid (SReady_n w)
  go_enter Tryz.func11, Tryz.ntmps11
  go_wp2_with fail
  with_reducible refine HT.out.mono ?_
  rintro e w1 ⟨rfl, rfl⟩
  go_wp2
  go_ret
  exact ⟨rfl, rfl⟩
theorem SSync_n (w : World) : Calls Tryz.prog 16 #[.pointer none] w fun e w' => e = .returned (.int .i64 1) ∧ w = w' := by
  have HT := Lib.hid (SReady_n w)
  go_enter Tryz.func16, Tryz.ntmps16
  go_wp2_with fail
  with_reducible refine HT.out.mono ?_
  rintro e w1 ⟨rfl, rfl⟩
  go_wp2
  go_ret
  exact ⟨rfl, rfl⟩
theorem SSave_n (w : World) (v : Value) : Calls Tryz.prog 10 #[.pointer none, v] w fun e w' => e = .returned (.int .i64 1) ∧ w = w' := by
  have HT := Lib.hid (SReady_n w)
  go_enter Tryz.func10, Tryz.ntmps10
  go_wp2_with fail
  with_reducible refine HT.out.mono ?_
  rintro e w1 ⟨rfl, rfl⟩
  go_wp2
  go_ret
  exact ⟨rfl, rfl⟩
end Go.Proofs.YtmejdcnnpenaaaaGreatDoor.St
end

/-
  Stores (layer 9): the walk of write (a snapshot's file). Conditions: what each says.
-/
section
open Go Go.RowKit
namespace Go.Proofs.YtmejdcnnpenaaaaGreatDoor.St
open Base Mp Dk Frame Lg

/-- The disk behind a step of write; a box tells whether the file was created. -/
structure WAt (w0 ws w' : World) (b cx : Nat) (T : Nat → Prop) (D : DiskD) (cr : Bool) : Prop where
  is : ∃ T', DX w0 w' b D T' ∧ ∀ i, T' i → T i ∨ (ws.heap.size ≤ i ∧ i < w'.heap.size)
  kept : Kept (fun i => T i ∨ i = cx) ws w'
  box : CellsAt w' cx 1 (fun _ => .bool cr)
/-- What the closures of write find: the store, the file's name, the snapshot. -/
structure WIn (w : World) (b sb sx fx : Nat) (nm : Key) : Prop where
  cs : w.cell? ⟨sx, 0, none⟩ = some (.pointer (some ⟨sb, 0, none⟩))
  cd : w.cell? ⟨sb, 0, none⟩ = some (.pointer (some ⟨b, 0, none⟩))
  cf : w.cell? ⟨fx, 0, none⟩ = some (.string (B nm))
theorem WIn.kept {w w' : World} {b sb sx fx : Nat} {nm : Key} {X : Nat → Prop} (h : WIn w b sb sx fx nm) (hk : Kept X w w') (h1 : ¬ X sx) (h2 : ¬ X sb) (h3 : ¬ X fx) : WIn w' b sb sx fx nm := ⟨cell_kept h.cs hk h1, cell_kept h.cd hk h2, cell_kept h.cf hk h3⟩
theorem keptB {T : Nat → Prop} {w w' : World} (h : Kept T w.drew w') : Kept T w w' := undrew h
set_option maxRecDepth 100000 in
theorem Write1_f {w0 w : World} {b sb sx fx cx : Nat} {D : DiskD} {T : Nat → Prop} {nm : Key} (h : DX w0 w b D T) (hn : nm.length ≤ maxLen) (hi : WIn w b sb sx fx nm) (h0 : w0.heap.size ≤ cx) (hc : CellsAt w cx 1 (fun _ => .bool false)) (t1 : ¬ T sx) (t2 : ¬ T sb) (t3 : ¬ T fx) (t4 : ¬ T cx) :
    Calls Tryz.prog 60 #[.pointer (some ⟨sx, 0, none⟩), .pointer (some ⟨fx, 0, none⟩), .pointer (some ⟨cx, 0, none⟩)] w fun e w' => e = .returned (.int .i64 (createD D nm).2) ∧ WAt w0 w w' b cx T (createD D nm).1 ((createD D nm).2 == 0) := by
  have HX := Lib.hid h
  have HC := Lib.hid (fun W (h : DX w0 W b D T) => h.op (Create_f h.dk nm hn))
  have HI := Lib.hid hi
  have HBX := Lib.hid hc
  obtain ⟨c1, c2, c3⟩ := hi
  have l1 := lt_of_cell c1
  have l2 := lt_of_cell c2
  have l3 := lt_of_cell c3
  have l4 := hc.lt (by omega)
  generalize createD D nm = rd at *
  obtain ⟨D2, c⟩ := rd
  simp only at HC ⊢
  clear h hc
  go_enter Tryz.func60, Tryz.ntmps60
  go_wp2_with fail
  go_region_held3 (fun W => W.cell? ⟨sx, 0, none⟩ = some (.pointer (some ⟨sb, 0, none⟩)) ∧ W.cell? ⟨sb, 0, none⟩ = some (.pointer (some ⟨b, 0, none⟩)) ∧ W.cell? ⟨fx, 0, none⟩ = some (.string (B nm))) (first | go_keep | exact ⟨cell_kept c1 (undrew k4) t1, cell_kept c2 (undrew k4) t2, cell_kept c3 (undrew k4) t3⟩)
    ((go_at_call 57; with_reducible refine (HC.out _ (HX.out.later (Below.refl _ w).drew)).mono ?_; rintro e w4 ⟨rfl, h4, k4⟩))
  have H4 := Lib.hid h4
  have K4 := Lib.hid (undrew k4)
  have hb4 := HBX.out.kept (undrew k4) l4 t4
  have HB4 := Lib.hid hb4
  have x1 := (hb4 0 (by omega)).1
  have x2 := (hb4 0 (by omega)).2
  have x3 := lt_of_cell x1
  clear h4 k4 hb4 c1 c2 c3
  go_wp2
  go_ret
  have hk : Kept (fun i => i = cx) w4 (w4.setCell ⟨cx, 0, none⟩ (.bool (c == 0))) := Kept.setCell (T := fun i => i = cx) (Kept.refl _ w4) (.inl rfl) _
  have hz := K4.out.size
  have hf : ¬ More T w.drew w4 cx := fun e => by
    rcases e with e | e
    · exact t4 e
    · have : w.heap.size ≤ cx := e.1; omega
  refine ⟨rfl, ⟨More T w.drew w4, H4.out.next hk fun i hi => by rw [hi]; exact ⟨h0, hf⟩, fun i hi => ?_⟩, (K4.out.mono (T' := fun i => T i ∨ i = cx) fun _ h => .inl h).trans (hk.mono (T' := fun i => T i ∨ i = cx) fun _ h => .inr h) fun _ h => .inl h, (CellsAt.set HB4.out (i := 0) (by omega) _).congr fun j hj => ?_⟩
  · rcases hi with hi | hi
    · exact .inl hi
    · exact .inr ⟨hi.1, Nat.lt_of_lt_of_le hi.2 hk.size⟩
  · obtain rfl : j = 0 := by omega
    rfl
theorem WAt.op {w0 ws w1 w' : World} {b cx : Nat} {T T1 : Nat → Prop} {D D' : DiskD} {cr : Bool} (h : WAt w0 ws w1 b cx T D cr) (hT1 : ∀ i, T1 i → T i ∨ (ws.heap.size ≤ i ∧ i < w1.heap.size)) (hcx : cx < ws.heap.size) (tcx : ¬ T cx) (hx : DX w0 w' b D' (More T1 w1 w')) (hk : Kept T1 w1 w') : WAt w0 ws w' b cx T D' cr := by
  have hz1 := h.kept.size
  have hz2 := hk.size
  refine ⟨⟨_, hx, fun i hi => ?_⟩, h.kept.trans hk fun i hi => ?_, h.box.kept hk (h.box.lt (by omega)) fun hi => ?_⟩
  · rcases hi with hi | hi
    · exact (hT1 i hi).imp id fun e => ⟨e.1, by omega⟩
    · exact .inr ⟨by omega, hi.2⟩
  · exact (hT1 i hi).imp .inl fun e => e.1
  · rcases hT1 _ hi with hi | hi
    · exact tcx hi
    · omega
theorem WAt.later {w0 ws w1 w' : World} {b cx : Nat} {T : Nat → Prop} {D : DiskD} {cr : Bool} (h : WAt w0 ws w1 b cx T D cr) (hb : Below w1.heap.size w1 w') : WAt w0 ws w' b cx T D cr := by
  obtain ⟨T1, hx, hT⟩ := h.is
  exact ⟨⟨T1, hx.later hb, fun i hi => (hT i hi).imp id fun e => ⟨e.1, Nat.lt_of_lt_of_le e.2 hb.size⟩⟩, h.kept.trans (Kept.of_below (T := fun _ => False) hb) fun _ h => h.elim, h.box.below hb (h.box.lt (by omega))⟩
set_option maxRecDepth 100000 in
theorem Write2_f {w0 ws w : World} {b sb sx fx cx tx : Nat} {D : DiskD} {T : Nat → Prop} {nm x : Key} {cr : Bool} (h : WAt w0 ws w b cx T D cr) (hL : Laid w0) (hn : nm.length ≤ maxLen) (hxl : x.length ≤ 1048576) (hi : WIn ws b sb sx fx nm) (hx : ws.cell? ⟨tx, 0, none⟩ = some (.string (B x))) (h4c : cx < ws.heap.size) (t1 : ¬ T sx ∧ sx ≠ cx) (t2 : ¬ T sb ∧ sb ≠ cx) (t3 : ¬ T fx ∧ fx ≠ cx) (t4 : ¬ T cx) (t5 : ¬ T tx ∧ tx ≠ cx) :
    Calls Tryz.prog 61 #[.pointer (some ⟨tx, 0, none⟩), .pointer (some ⟨sx, 0, none⟩), .pointer (some ⟨fx, 0, none⟩)] w fun e w' => e = .returned (.int .i64 (appendD D nm (put x)).2) ∧ WAt w0 ws w' b cx T (appendD D nm (put x)).1 cr := by
  have nx : ∀ {i}, ¬ T i ∧ i ≠ cx → ¬ (T i ∨ i = cx) := fun h e => e.elim h.1 h.2
  have HI := Lib.hid (hi.kept h.kept (nx t1) (nx t2) (nx t3))
  have ct := cell_kept hx h.kept (nx t5)
  have s1 : sx < ws.heap.size := lt_of_cell hi.cs
  have s2 : sb < ws.heap.size := lt_of_cell hi.cd
  have s3 : fx < ws.heap.size := lt_of_cell hi.cf
  obtain ⟨T1, hx1, hT1⟩ := h.is
  have HX := Lib.hid hx1
  have HW := Lib.hid h
  have HT1 := Lib.hid hT1
  have HP := Lib.hid (Frame.Put_calls x w hxl (hL.next hx1.below).tab)
  have HA := Lib.hid (fun W (h : DX w0 W b D T1) => h.op (Append_f h.dk nm (put x) hn (by rw [put_length]; unfold maxLen; omega)))
  generalize appendD D nm (put x) = rd at *
  generalize put x = px at *
  obtain ⟨D2, c⟩ := rd
  simp only at HA ⊢
  clear h hx hi hx1 hT1
  go_enter Tryz.func61, Tryz.ntmps61
  go_wp2_with fail
  with_reducible refine HP.out.mono ?_
  rintro e w2 ⟨rfl, hb2⟩
  have HX2 := Lib.hid (HX.out.later hb2)
  have HW2 := Lib.hid (HW.out.later hb2)
  have HI2 := HI.out.kept (Kept.of_below (T := fun _ => False) hb2) id id id
  have HZ2 := Lib.hid hb2.size
  have u1 : ¬ T1 sx := fun e => by
    rcases HT1.out _ e with e | e
    · exact t1.1 e
    · have := s1; omega
  have u2 : ¬ T1 sb := fun e => by
    rcases HT1.out _ e with e | e
    · exact t2.1 e
    · have := s2; omega
  have u3 : ¬ T1 fx := fun e => by
    rcases HT1.out _ e with e | e
    · exact t3.1 e
    · have := s3; omega
  obtain ⟨c1, c2, c3⟩ := HI2
  have l1 := lt_of_cell c1
  have l2 := lt_of_cell c2
  have l3 := lt_of_cell c3
  clear hb2 HP ct
  go_wp2_with fail
  go_region_held3 (fun W => W.cell? ⟨sx, 0, none⟩ = some (.pointer (some ⟨sb, 0, none⟩)) ∧ W.cell? ⟨sb, 0, none⟩ = some (.pointer (some ⟨b, 0, none⟩)) ∧ W.cell? ⟨fx, 0, none⟩ = some (.string (B nm))) (first | go_keep | exact ⟨cell_kept c1 (undrew k4) u1, cell_kept c2 (undrew k4) u2, cell_kept c3 (undrew k4) u3⟩)
    ((go_at_call 63; with_reducible refine (HA.out _ (HX2.out.later (Below.refl _ w2).drew)).mono ?_; rintro e w4 ⟨rfl, h4, k4⟩))
  have H4 := Lib.hid h4
  have K4 := Lib.hid (undrew k4)
  clear h4 k4 c1 c2 c3
  go_wp2
  go_ret
  exact ⟨rfl, HW2.out.op (fun i hi => (HT1.out i hi).imp id fun e => ⟨e.1, by have := HZ2.out; omega⟩) h4c t4 H4.out K4.out⟩
set_option maxRecDepth 100000 in
theorem Write3_f {w0 ws w : World} {b sb sx fx cx : Nat} {D : DiskD} {T : Nat → Prop} {nm : Key} {cr : Bool} (h : WAt w0 ws w b cx T D cr) (hn : nm.length ≤ maxLen) (hi : WIn ws b sb sx fx nm) (h4c : cx < ws.heap.size) (t1 : ¬ T sx ∧ sx ≠ cx) (t2 : ¬ T sb ∧ sb ≠ cx) (t3 : ¬ T fx ∧ fx ≠ cx) (t4 : ¬ T cx) :
    Calls Tryz.prog 64 #[.pointer (some ⟨sx, 0, none⟩), .pointer (some ⟨fx, 0, none⟩)] w fun e w' => e = .returned (.int .i64 (syncD D nm).2) ∧ WAt w0 ws w' b cx T (syncD D nm).1 cr := by
  have nx : ∀ {i}, ¬ T i ∧ i ≠ cx → ¬ (T i ∨ i = cx) := fun h e => e.elim h.1 h.2
  have HI := Lib.hid (hi.kept h.kept (nx t1) (nx t2) (nx t3))
  have s1 : sx < ws.heap.size := lt_of_cell hi.cs
  have s2 : sb < ws.heap.size := lt_of_cell hi.cd
  have s3 : fx < ws.heap.size := lt_of_cell hi.cf
  obtain ⟨T1, hx1, hT1⟩ := h.is
  have HX := Lib.hid hx1
  have HW := Lib.hid h
  have HT1 := Lib.hid hT1
  have HA := Lib.hid (fun W (h : DX w0 W b D T1) => h.op (Sync_f h.dk nm hn))
  generalize syncD D nm = rd at *
  obtain ⟨D2, c⟩ := rd
  simp only at HA ⊢
  clear h hi hx1 hT1
  have u1 : ¬ T1 sx := fun e => by
    rcases HT1.out _ e with e | e
    · exact t1.1 e
    · have := s1; omega
  have u2 : ¬ T1 sb := fun e => by
    rcases HT1.out _ e with e | e
    · exact t2.1 e
    · have := s2; omega
  have u3 : ¬ T1 fx := fun e => by
    rcases HT1.out _ e with e | e
    · exact t3.1 e
    · have := s3; omega
  obtain ⟨c1, c2, c3⟩ := HI.out
  have l1 := lt_of_cell c1
  have l2 := lt_of_cell c2
  have l3 := lt_of_cell c3
  go_enter Tryz.func64, Tryz.ntmps64
  go_wp2_with fail
  go_region_held3 (fun W => W.cell? ⟨sx, 0, none⟩ = some (.pointer (some ⟨sb, 0, none⟩)) ∧ W.cell? ⟨sb, 0, none⟩ = some (.pointer (some ⟨b, 0, none⟩)) ∧ W.cell? ⟨fx, 0, none⟩ = some (.string (B nm))) (first | go_keep | exact ⟨cell_kept c1 (undrew k4) u1, cell_kept c2 (undrew k4) u2, cell_kept c3 (undrew k4) u3⟩)
    ((go_at_call 27; with_reducible refine (HA.out _ (HX.out.later (Below.refl _ w).drew)).mono ?_; rintro e w4 ⟨rfl, h4, k4⟩))
  have H4 := Lib.hid h4
  have K4 := Lib.hid (undrew k4)
  clear h4 k4 c1 c2 c3
  go_wp2
  go_ret
  exact ⟨rfl, HW.out.op HT1.out h4c t4 H4.out K4.out⟩
theorem DX.wide {w0 w : World} {b : Nat} {D : DiskD} {T T' : Nat → Prop} (h : DX w0 w b D T) (hT : ∀ i, T i → T' i) (h2 : ∀ i, T' i → w0.heap.size ≤ i ∧ i < w.heap.size) : DX w0 w b D T' := by
  obtain ⟨hb, ⟨tag, blk, bm, hd⟩, _⟩ := h
  exact ⟨hb, ⟨tag, blk, bm, hd.wide hT fun i hi => (h2 i hi).2⟩, fun i hi => (h2 i hi).1⟩
theorem write_steps {w0 ws : World} {b sb sx fx cx tx g cap : Nat} {D : DiskD} {T : Nat → Prop} {nm x : Key} (h : DX w0 ws b D T) (hL : Laid w0) (hn : nm.length ≤ maxLen) (hxl : x.length ≤ 1048576) (hi : WIn ws b sb sx fx nm) (hx : ws.cell? ⟨tx, 0, none⟩ = some (.string (B x))) (h0 : w0.heap.size ≤ cx) (hc : CellsAt ws cx 1 (fun _ => .bool false))
    (t1 : ¬ T sx ∧ sx ≠ cx) (t2 : ¬ T sb ∧ sb ≠ cx) (t3 : ¬ T fx ∧ fx ≠ cx) (t4 : ¬ T cx) (t5 : ¬ T tx ∧ tx ≠ cx) (t6 : ¬ T g ∧ g ≠ cx)
    (g1 : ws.cell? ⟨g, 0, none⟩ = some (.func (.func 60) #[] #[.pointer (some ⟨sx, 0, none⟩), .pointer (some ⟨fx, 0, none⟩), .pointer (some ⟨cx, 0, none⟩)]))
    (g2 : ws.cell? ⟨g, 1, none⟩ = some (.func (.func 61) #[] #[.pointer (some ⟨tx, 0, none⟩), .pointer (some ⟨sx, 0, none⟩), .pointer (some ⟨fx, 0, none⟩)]))
    (g3 : ws.cell? ⟨g, 2, none⟩ = some (.func (.func 64) #[] #[.pointer (some ⟨sx, 0, none⟩), .pointer (some ⟨fx, 0, none⟩)])) :
    Calls Tryz.prog 23 #[.slice (some ⟨g, 0, none⟩) 3 cap] ws fun e w' => e = .returned (.int .i64 (writeM D nm x).2.1) ∧ WAt w0 ws w' b cx T (writeM D nm x).1 (writeM D nm x).2.2 := by
  have nx : ∀ {i}, ¬ T i ∧ i ≠ cx → ¬ (T i ∨ i = cx) := fun h e => e.elim h.1 h.2
  refine (Steps3 (P1 := fun w' => (createD D nm).2 = 0 ∧ WAt w0 ws w' b cx T (createD D nm).1 true) (P2 := fun w' => (createD D nm).2 = 0 ∧ (appendD (createD D nm).1 nm (put x)).2 = 0 ∧ WAt w0 ws w' b cx T (appendD (createD D nm).1 nm (put x)).1 true)
    (P3 := fun w' => (writeM D nm x).2.1 = 0 ∧ WAt w0 ws w' b cx T (writeM D nm x).1 (writeM D nm x).2.2) (Q := fun c w' => c = (writeM D nm x).2.1 ∧ WAt w0 ws w' b cx T (writeM D nm x).1 (writeM D nm x).2.2)
    (fun _ _ => by kernel_rfl) (fun _ _ => by kernel_rfl) (fun _ _ => by kernel_rfl) g1 (fun w' h => cell_kept g2 h.2.kept (nx t6)) (fun w' h => cell_kept g3 h.2.2.kept (nx t6)) ?_ ?_ ?_).mono ?_
  · refine (Write1_f h hn hi h0 hc t1.1 t2.1 t3.1 t4).mono ?_
    rintro e w' ⟨rfl, hw⟩
    refine ⟨_, rfl, ?_⟩
    by_cases hz : (createD D nm).2 = 0
    · rw [show ((createD D nm).2 == 0) = true by simpa using hz] at hw
      exact .inl ⟨hz, hz, hw⟩
    · rw [show ((createD D nm).2 == 0) = false by simpa using hz] at hw
      have he : writeM D nm x = ((createD D nm).1, (createD D nm).2, false) := if_pos hz
      exact .inr ⟨hz, by rw [he], by rw [he]; exact hw⟩
  · rintro w1 ⟨hz, hw⟩
    refine (Write2_f hw hL hn hxl hi hx (hc.lt (by omega)) t1 t2 t3 t4 t5).mono ?_
    rintro e w' ⟨rfl, hw2⟩
    refine ⟨_, rfl, ?_⟩
    by_cases hz2 : (appendD (createD D nm).1 nm (put x)).2 = 0
    · exact .inl ⟨hz2, hz, hz2, hw2⟩
    · have he : writeM D nm x = ((appendD (createD D nm).1 nm (put x)).1, (appendD (createD D nm).1 nm (put x)).2, true) := by unfold writeM; rw [if_neg (fun e => e hz), if_pos hz2]
      exact .inr ⟨hz2, by rw [he], by rw [he]; exact hw2⟩
  · rintro w2 ⟨hz, hz2, hw⟩
    refine (Write3_f hw hn hi (hc.lt (by omega)) t1 t2 t3 t4).mono ?_
    rintro e w' ⟨rfl, hw2⟩
    have he : writeM D nm x = ((syncD (appendD (createD D nm).1 nm (put x)).1 nm).1, (syncD (appendD (createD D nm).1 nm (put x)).1 nm).2, true) := by unfold writeM; rw [if_neg (fun e => e hz), if_neg (fun e => e hz2)]
    refine ⟨_, rfl, ?_⟩
    by_cases hz3 : (syncD (appendD (createD D nm).1 nm (put x)).1 nm).2 = 0
    · exact .inl ⟨hz3, by rw [he]; exact hz3, by rw [he]; exact hw2⟩
    · exact .inr ⟨hz3, by rw [he], by rw [he]; exact hw2⟩
  · rintro e w' ⟨c, rfl, ⟨rfl, h1, h2⟩ | ⟨_, h1, h2⟩⟩
    · exact ⟨by rw [h1], h2⟩
    · exact ⟨by rw [h1], h2⟩
/-- Behind the steps. -/
theorem write_done {w0 w ws w2 : World} {b cx : Nat} {T : Nat → Prop} {D : DiskD} {cr : Bool} (hb : Below w.heap.size w ws) (h0 : w0.heap.size ≤ w.heap.size) (ho : ∀ i, T i → w0.heap.size ≤ i ∧ i < w.heap.size) (hcx : w.heap.size ≤ cx) (h : WAt w0 ws w2 b cx T D cr) : DX w0 w2 b D (More T w w2) ∧ Kept T w w2 := by
  have z1 := hb.size
  have z2 := h.kept.size
  refine ⟨?_, (Kept.of_below (T := T) hb).trans h.kept fun i hi => ?_⟩
  · obtain ⟨T', hx, hT⟩ := h.is
    refine DX.wide hx (fun i hi => (hT i hi).imp id fun e => ⟨by omega, e.2⟩) fun i hi => ?_
    rcases hi with hi | hi
    · have := ho i hi; exact ⟨this.1, by omega⟩
    · exact ⟨by omega, hi.2⟩
  · rcases hi with hi | hi
    · exact .inl hi
    · rw [hi]; exact .inr hcx
set_option maxRecDepth 100000 in
set_option maxHeartbeats 4000000 in
theorem Write_f {w0 w : World} {b sb lb : Nat} {D : DiskD} {S : StoreD} {T U : Nat → Prop} (h : SAt w0 w b sb lb D S T U) (hL : Laid w0) (m : Nat) (hm : m ≤ 18446744073709551609) (x : Key) (hx : x.length ≤ 1048576) :
    Calls Tryz.prog 33 #[.pointer (some ⟨sb, 0, none⟩), .int .u64 (m : Nat), .string (B x)] w fun e w' => e = .returned (.int .i64 (writeS D m x).2) ∧ DX w0 w' b (writeS D m x).1 (More T w w') ∧ Kept T w w' := by
  have HN := Lib.hid (fun W (hb : Below w.heap.size w W) => Snap_f m (by omega) W ((hL.next h.lx.dx.below).next hb).pow)
  have HS := Lib.hid (fun ws (hb : Below w.heap.size w ws) (sx fx cx tx g cap : Nat) => write_steps (sb := sb) (nm := snapN m) (x := x) (sx := sx) (fx := fx) (cx := cx) (tx := tx) (g := g) (cap := cap) (h.lx.dx.later hb) hL (by rw [snapN_len (by omega)]; decide) hx)
  have hnl : (snapN m).length ≤ maxLen := by rw [snapN_len (by omega)]; decide
  have H := Lib.hid h
  have hcd := (h.st 0 (by omega)).1
  simp only [storeCell] at hcd
  have hsl := h.st.lt (by omega)
  have hold := h.lx.dx.old
  have HO := Lib.hid (show ∀ i, T i → w0.heap.size ≤ i ∧ i < w.heap.size from fun i hi => ⟨h.lx.dx.own i hi, hold i hi⟩)
  have hz0 := h.lx.dx.below.size
  have hfar := h.far
  have HE := Lib.hid (show writeS D m x = if (writeM D (snapN m) x).2.1 ≠ 0 ∧ (writeM D (snapN m) x).2.2 = true then ((removeD (writeM D (snapN m) x).1 (snapN m)).1, (writeM D (snapN m) x).2.1) else ((writeM D (snapN m) x).1, (writeM D (snapN m) x).2.1) from rfl)
  generalize writeM D (snapN m) x = r at *
  generalize snapN m = nm at *
  obtain ⟨D2, c, cr⟩ := r
  simp only at HS HE
  clear h
  go_enter Tryz.func33, Tryz.ntmps33
  go_wp2_with fail
  with_reducible refine (HN.out _ ?_).mono ?_
  · exact ((Below.refl _ _).alloc (Nat.le_refl _) _).alloc (by rw [alloc_more]; omega) _
  rintro e w1 ⟨rfl, hb1⟩
  have HB1 := Lib.hid hb1
  clear hb1 HN
  go_wp2_with fail
  obtain ⟨q1, q2, q3, q4, q5, q6, q7, q8, q9, qa⟩ := open_cells HB1.out (ws := _) rfl
  have q60 := (q6 0 (by omega)).1
  have q40 := (q4 0 (by omega)).1
  have q50 := (q5 0 (by omega)).1
  have qd := (q1.cell (p := ⟨sb, 0, none⟩) hsl).trans hcd
  have tn : ∀ i, w.heap.size ≤ i → ¬ T i := fun i hi ht => by have := hold i ht; omega
  with_reducible refine (HS.out _ q1 _ _ _ _ _ _ ⟨q40, qd, q60⟩ q50 (by omega) q7 ⟨tn _ (by omega), by omega⟩ ⟨hfar, by omega⟩ ⟨tn _ (by omega), by omega⟩ (tn _ (by omega)) ⟨tn _ (by omega), by omega⟩ ⟨tn _ (by omega), by omega⟩ q8 q9 qa).mono ?_
  have Q := Lib.hid (And.intro q1 (And.intro q2 q3))
  have QW := Lib.hid (show WIn _ b sb w.heap.size w1.heap.size nm from ⟨q40, qd, q60⟩)
  clear q4 q5 q6 q7 q8 q9 qa q60 q40 q50 qd HS
  generalize (((w1.alloc (Obj.cells _ _)).alloc (Obj.cells _ _)).alloc (Obj.cells _ _)) = ws at *
  rintro e w2 ⟨rfl, hw⟩
  obtain ⟨d1, d2⟩ := write_done q1 hz0 HO.out (by omega) hw
  have HD1 := Lib.hid d1
  have HD2 := Lib.hid d2
  have HW := Lib.hid hw
  have hcx := (hw.box 0 (by omega)).1
  have hw2 := QW.out.kept hw.kept (fun e => by rcases e with e | e; exact tn _ (Nat.le_refl _) e; omega) (fun e => by rcases e with e | e; exact hfar e; omega) (fun e => by rcases e with e | e; exact tn _ (by omega) e; omega)
  clear hw d1 d2 q1 q2 q3 tn hold
  by_cases hc : c = 0
  · subst hc
    go_wp2
    go_ret
    rw [HE.out, if_neg (fun e => e.1 rfl)]
    exact ⟨rfl, HD1.out, HD2.out⟩
  · have q : (c != 0) = true := by simpa using hc
    have HC := Lib.hid hc
    clear hc
    cases cr
    · go_wp2
      go_ret
      rw [HE.out, if_neg (fun e => by cases e.2)]
      exact ⟨rfl, HD1.out, HD2.out⟩
    · rw [if_pos ⟨HC.out, rfl⟩] at HE
      obtain ⟨T1, hx1, hT1⟩ := HW.out.is
      have HX1 := Lib.hid hx1
      have HT1 := Lib.hid hT1
      have HR := Lib.hid (fun W (h : DX w0 W b D2 T1) => h.op (Remove_f h.dk nm hnl))
      obtain ⟨q1, q2, q3⟩ := Q.out
      have tn : ∀ i, w.heap.size ≤ i → ¬ T i := fun i hi ht => by have := (HO.out i ht).2; omega
      have u1 : ¬ T1 w.heap.size := fun e => by
        rcases hT1 _ e with e | e
        · exact tn _ (Nat.le_refl _) e
        · omega
      have u2 : ¬ T1 sb := fun e => by
        rcases hT1 _ e with e | e
        · exact hfar e
        · omega
      have u3 : ¬ T1 w1.heap.size := fun e => by
        rcases hT1 _ e with e | e
        · exact tn _ (by omega) e
        · omega
      obtain ⟨c1, c2, c3⟩ := hw2
      have l1 := lt_of_cell c1
      have l2 := lt_of_cell c2
      have l3 := lt_of_cell c3
      generalize removeD D2 nm = rr at *
      obtain ⟨D3, c9⟩ := rr
      simp only at HR
      clear hcd hsl hfar hx1 hT1 q1 q2 q3 tn
      go_wp2_with fail
      go_region_held3 (fun W => W.cell? ⟨w.heap.size, 0, none⟩ = some (.pointer (some ⟨sb, 0, none⟩)) ∧ W.cell? ⟨sb, 0, none⟩ = some (.pointer (some ⟨b, 0, none⟩)) ∧ W.cell? ⟨w1.heap.size, 0, none⟩ = some (.string (B nm))) (first | go_keep | exact ⟨cell_kept c1 (undrew k4) u1, cell_kept c2 (undrew k4) u2, cell_kept c3 (undrew k4) u3⟩)
        ((go_at_call 55; with_reducible refine (HR.out _ (HX1.out.later (Below.refl _ w2).drew)).mono ?_; rintro e w4 ⟨rfl, h4, k4⟩))
      have H4 := Lib.hid h4
      have K4 := Lib.hid (undrew k4)
      clear h4 k4 c1 c2 c3 hcx u1 u2 u3 l1 l2 l3
      go_wp2
      go_ret
      rw [HE.out]
      obtain ⟨q1, q2, q3⟩ := Q.out
      exact ⟨rfl, write_done q1 hz0 HO.out (by omega) (HW.out.op HT1.out (by omega) (fun e => by have := (HO.out _ e).2; omega) H4.out K4.out)⟩
end Go.Proofs.YtmejdcnnpenaaaaGreatDoor.St
end
