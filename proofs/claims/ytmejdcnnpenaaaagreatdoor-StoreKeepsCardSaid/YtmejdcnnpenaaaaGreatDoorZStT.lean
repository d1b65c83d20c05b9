/-
  Stores (layer 9): the walks of turn's three closures. Conditions: what each says.
-/
import Derived.Test.YtmejdcnnpenaaaaGreatDoorZStO

section
open Go Go.RowKit
namespace Go.Proofs.YtmejdcnnpenaaaaGreatDoor.St
open Base Mp Dk Frame Lg

structure TErr (w0 ws w' : World) (b lx : Nat) (T : Nat → Prop) (D : DiskD) : Prop where
  is : ∃ T', (∀ i, T' i → T i ∨ ws.heap.size ≤ i) ∧ DX w0 w' b D T'
  kept : Kept (fun i => T i ∨ i = lx) ws w'
structure TAt (w0 ws w' : World) (b lx : Nat) (T : Nat → Prop) (D : DiskD) (lb : Nat) (L : LogD) (T' : Nat → Prop) : Prop where
  sub : ∀ i, T' i → T i ∨ ws.heap.size ≤ i
  dx : DX w0 w' b D T'
  kept : Kept (fun i => T i ∨ i = lx) ws w'
  cl : w'.cell? ⟨lx, 0, none⟩ = some (.pointer (some ⟨lb, 0, none⟩))
  cells : CellsAt w' lb 6 (logCell b L)
  new : ws.heap.size ≤ lb
  far : ¬ T' lb
theorem TAt.err {w0 ws w' : World} {b lx : Nat} {T : Nat → Prop} {D : DiskD} {lb : Nat} {L : LogD} {T' : Nat → Prop} (h : TAt w0 ws w' b lx T D lb L T') : TErr w0 ws w' b lx T D := ⟨⟨T', h.sub, h.dx⟩, h.kept⟩
theorem TAt.out {w0 ws w' : World} {b lx : Nat} {T : Nat → Prop} {D : DiskD} {lb : Nat} {L : LogD} {T' : Nat → Prop} (h : TAt w0 ws w' b lx T D lb L T') {i : Nat} (hi : i < ws.heap.size) (ht : ¬ T i) : ¬ T' i := fun e => by
  rcases h.sub i e with e | e
  · exact ht e
  · omega
theorem TAt.later {w0 ws w1 w' : World} {b lx : Nat} {T : Nat → Prop} {D : DiskD} {lb : Nat} {L : LogD} {T' : Nat → Prop} (h : TAt w0 ws w1 b lx T D lb L T') (hb : Below w1.heap.size w1 w') : TAt w0 ws w' b lx T D lb L T' :=
  ⟨h.sub, h.dx.later hb, h.kept.trans (Kept.of_below (T := fun _ => False) hb) fun _ e => e.elim, (hb.cell (p := ⟨lx, 0, none⟩) (lt_of_cell h.cl)).trans h.cl, h.cells.below hb (h.cells.lt (by omega)), h.new, h.far⟩
theorem TAt.op {w0 ws w1 w' : World} {b lx : Nat} {T : Nat → Prop} {D D' : DiskD} {lb : Nat} {L : LogD} {T' : Nat → Prop} (h : TAt w0 ws w1 b lx T D lb L T') (hlx : lx < ws.heap.size) (tlx : ¬ T lx) (hx : DX w0 w' b D' (More T' w1 w')) (hk : Kept T' w1 w') : TAt w0 ws w' b lx T D' lb L (More T' w1 w') := by
  have z1 := h.kept.size
  have hlb := h.cells.lt (by omega)
  refine ⟨fun i hi => ?_, hx, h.kept.trans hk fun i hi => ?_, cell_kept h.cl hk (h.out hlx tlx), h.cells.kept hk hlb h.far, h.new, fun hi => ?_⟩
  · rcases hi with hi | hi
    · exact h.sub i hi
    · exact .inr (by omega)
  · exact (h.sub i hi).imp .inl id
  · rcases hi with hi | hi
    · exact h.far hi
    · omega
set_option maxRecDepth 100000 in
set_option maxHeartbeats 8000000 in
theorem Turn1_f {w0 w : World} {b sb sx mx lx : Nat} {D : DiskD} {T : Nat → Prop} (h : DX w0 w b D T) (hL : Laid w0) (hro : D.room ≤ 1048576) (n : Nat) (hn : n ≤ 18446744073709551609) {lv : Value} (hs : w.cell? ⟨sx, 0, none⟩ = some (.pointer (some ⟨sb, 0, none⟩))) (hd : w.cell? ⟨sb, 0, none⟩ = some (.pointer (some ⟨b, 0, none⟩))) (hm : w.cell? ⟨mx, 0, none⟩ = some (.int .u64 (n : Nat))) (hlx : CellsAt w lx 1 (fun _ => lv))
    (tlx : ¬ T lx) (h00 : w0.heap.size ≤ lx) :
    Calls Tryz.prog 65 #[.pointer (some ⟨sx, 0, none⟩), .pointer (some ⟨mx, 0, none⟩), .pointer (some ⟨lx, 0, none⟩)] w fun e w' => e = .returned (.int .i64 (openL D (logN n)).2.2) ∧
      (((openL D (logN n)).2.1 = none ∧ (openL D (logN n)).2.2 ≠ 0 ∧ TErr w0 w w' b lx T (openL D (logN n)).1) ∨ ∃ L rs lb T', (openL D (logN n)).2.1 = some (L, rs) ∧ (openL D (logN n)).2.2 = 0 ∧ TAt w0 w w' b lx T (openL D (logN n)).1 lb L T') := by
  have HX := Lib.hid h
  have HN := Lib.hid (fun W (hb : Below w.heap.size w W) => Log_f n (by omega) W ((hL.next h.below).next hb).pow)
  have HO := Lib.hid (fun W (h : DX w0 W b D T) => LOpen_u h hL.tab (logN n) (by rw [logN_len (by omega)]; decide) hro)
  have hsl := lt_of_cell hs
  have hdl := lt_of_cell hd
  have hml := lt_of_cell hm
  have hll := hlx.lt (by omega)
  have flx := (hlx 0 (by omega)).2
  generalize openL D (logN n) = r at *
  generalize logN n = nm at *
  clear h
  go_enter Tryz.func65, Tryz.ntmps65
  go_wp2_with fail
  go_region_with (first
    | (go_at_call 26; (with_reducible refine (HN.out _ (Below.refl _ w).drew).mono ?_); rintro e w1 ⟨rfl, hb1⟩; have x1 := ((undrewB hb1).cell (p := ⟨sx, 0, none⟩) hsl).trans hs; have x2 := ((undrewB hb1).cell (p := ⟨sb, 0, none⟩) hdl).trans hd; have x3 := ((undrewB hb1).cell (p := ⟨mx, 0, none⟩) hml).trans hm; have y1 := hlx.below (undrewB hb1) hll)
    | (go_at_call 31; (with_reducible refine (HO.out _ (HX.out.later (undrewB hb1))).mono ?_); rintro e w2 ⟨p, q, m, cap, rfl, h2⟩; have z1 := y1.kept h2.kept (y1.lt (by omega)) tlx; have z3 := (z1 0 (by omega)).1; have z4 := (z1 0 (by omega)).2; have z7 := z1.lt (by omega)))
  all_goals
    have HB1 := Lib.hid (undrewB hb1)
    have H2 := Lib.hid h2
    have Z1 := Lib.hid z1
    clear hb1 h2 z1 z3 z4 x1 x2 x3 y1
    go_wp2
    go_ret
    have hk : Kept (fun i => i = lx) w2 (w2.setCell ⟨lx, 0, none⟩ (.pointer p)) := Kept.setCell (T := fun i => i = lx) (Kept.refl _ w2) (.inl rfl) _
    obtain ⟨k2, T', a1, a2, a3⟩ := H2.out
    have hz1 := HB1.out.size
    have hz2 := k2.size
    have tn : ¬ T' lx := fun e => by
      rcases a1 _ e with e | e
      · exact tlx e
      · omega
    have kk : Kept (fun i => T i ∨ i = lx) w (w2.setCell ⟨lx, 0, none⟩ (.pointer p)) := (((Kept.of_below (T := T) HB1.out).trans k2 fun _ e => .inl e).mono (T' := fun i => T i ∨ i = lx) fun _ e => .inl e).trans (hk.mono (T' := fun i => T i ∨ i = lx) fun _ e => .inr e) fun _ e => .inl e
    have ss : ∀ i, T' i → T i ∨ w.heap.size ≤ i := fun i hi => (a1 i hi).imp id fun e => by omega
    have dd := a2.next hk fun i hi => by rw [hi]; exact ⟨h00, tn⟩
    refine ⟨rfl, ?_⟩
    rcases a3 with ⟨b1, b2⟩ | ⟨L, rs, lb, b1, b2, b3, b4, b5, b6, b7, b8⟩
    · exact .inl ⟨b1, b2, ⟨T', ss, dd⟩, kk⟩
    · injection b3 with b3
      subst b3
      exact .inr ⟨L, rs, lb, T', b1, b2, ss, dd, kk, ((CellsAt.set Z1.out (i := 0) (by omega) _) 0 (by omega)).1, b4.kept hk (b4.lt (by omega)) (fun e => by omega), by omega, b6⟩
set_option maxRecDepth 100000 in
theorem Turn2_f {w0 ws w : World} {b sb sx lx lb : Nat} {D : DiskD} {T T' : Nat → Prop} {L : LogD} (h : TAt w0 ws w b lx T D lb L T') (hL : Laid w0) (n : Nat) (hn : n ≤ 18446744073709551609) (hs : ws.cell? ⟨sx, 0, none⟩ = some (.pointer (some ⟨sb, 0, none⟩))) (hd : ws.cell? ⟨sb, 0, none⟩ = some (.pointer (some ⟨b, 0, none⟩))) (hm : ws.cell? ⟨sb, 2, none⟩ = some (.int .u64 (n : Nat)))
    (h4c : lx < ws.heap.size) (t1 : ¬ T sx ∧ sx ≠ lx) (t2 : ¬ T sb ∧ sb ≠ lx) (t4 : ¬ T lx) :
    Calls Tryz.prog 66 #[.pointer (some ⟨sx, 0, none⟩)] w fun e w' => e = .returned (.int .i64 (oldS D n).2) ∧ ∃ T2, TAt w0 ws w' b lx T (oldS D n).1 lb L T2 := by
  have nx : ∀ {i}, ¬ T i ∧ i ≠ lx → ¬ (T i ∨ i = lx) := fun h e => e.elim h.1 h.2
  have c1 := cell_kept hs h.kept (nx t1)
  have c2 := cell_kept hd h.kept (nx t2)
  have c3 := cell_kept hm h.kept (nx t2)
  have l1 := lt_of_cell c1
  have l2 := lt_of_cell c2
  have s1 : sx < ws.heap.size := lt_of_cell hs
  have s2 : sb < ws.heap.size := lt_of_cell hd
  have u1 := h.out s1 t1.1
  have u2 := h.out s2 t2.1
  have H := Lib.hid h
  have HN := Lib.hid (fun W (hb : Below w.heap.size w W) => Snap_f n (by omega) W ((hL.next h.dx.below).next hb).pow)
  by_cases h0 : n = 0
  · subst h0
    have HE := Lib.hid (show oldS D 0 = (D, 0) from if_pos rfl)
    have c30 : w.cell? ⟨sb, 2, none⟩ = some (.int .u64 0) := c3
    clear h hs hd hm c3 HN
    go_enter Tryz.func66, Tryz.ntmps66
    go_wp2
    go_ret
    rw [HE.out]
    exact ⟨rfl, T', H.out⟩
  · have HE := Lib.hid (show oldS D n = removeD D (snapN n) from if_neg h0)
    have HR := Lib.hid (fun W (h : DX w0 W b D T') => h.op (Remove_f h.dk (snapN n) (by rw [snapN_len (by omega)]; decide)))
    have q : (n == 0) = false := by simpa using h0
    have q2 : ((n : Int) == 0) = false := by simpa using h0
    have q3 : n ≠ 0 := h0
    generalize removeD D (snapN n) = rd at *
    generalize snapN n = nm at *
    obtain ⟨D2, c⟩ := rd
    simp only at HR
    clear h h0 hs hd hm
    go_enter Tryz.func66, Tryz.ntmps66
    go_wp2_with fail
    go_region_held3 (fun W => W.cell? ⟨sx, 0, none⟩ = some (.pointer (some ⟨sb, 0, none⟩)) ∧ W.cell? ⟨sb, 0, none⟩ = some (.pointer (some ⟨b, 0, none⟩)) ∧ W.cell? ⟨sb, 2, none⟩ = some (.int .u64 (n : Nat))) (first | go_keep | exact ⟨((undrewB hb1).cell (p := ⟨sx, 0, none⟩) l1).trans c1, ((undrewB hb1).cell (p := ⟨sb, 0, none⟩) l2).trans c2, ((undrewB hb1).cell (p := ⟨sb, 2, none⟩) l2).trans c3⟩ | exact ⟨cell_kept (((undrewB hb1).cell (p := ⟨sx, 0, none⟩) l1).trans c1) k4 u1, cell_kept (((undrewB hb1).cell (p := ⟨sb, 0, none⟩) l2).trans c2) k4 u2, cell_kept (((undrewB hb1).cell (p := ⟨sb, 2, none⟩) l2).trans c3) k4 u2⟩)
        (first
        | (go_at_call 26; with_reducible refine (HN.out _ (Below.refl _ w).drew).mono ?_; rintro e w1 ⟨rfl, hb1⟩)
        | (go_at_call 55; with_reducible refine (HR.out _ (H.out.dx.later (undrewB hb1))).mono ?_; rintro e w4 ⟨rfl, h4, k4⟩))
    have HB1 := Lib.hid (undrewB hb1)
    have H4 := Lib.hid h4
    have K4 := Lib.hid k4
    clear h4 k4 hb1 c1 c2 c3
    go_wp2
    go_ret
    rw [HE.out]
    exact ⟨rfl, _, (H.out.later HB1.out).op h4c t4 H4.out K4.out⟩
set_option maxRecDepth 100000 in
theorem Turn3_f {w0 ws w : World} {b sb sx lx lb : Nat} {D : DiskD} {T T' : Nat → Prop} {L : LogD} (h : TAt w0 ws w b lx T D lb L T') (hL : Laid w0) (n : Nat) (hn : n ≤ 18446744073709551609) (hs : ws.cell? ⟨sx, 0, none⟩ = some (.pointer (some ⟨sb, 0, none⟩))) (hd : ws.cell? ⟨sb, 0, none⟩ = some (.pointer (some ⟨b, 0, none⟩))) (hm : ws.cell? ⟨sb, 2, none⟩ = some (.int .u64 (n : Nat)))
    (h4c : lx < ws.heap.size) (t1 : ¬ T sx ∧ sx ≠ lx) (t2 : ¬ T sb ∧ sb ≠ lx) (t4 : ¬ T lx) :
    Calls Tryz.prog 67 #[.pointer (some ⟨sx, 0, none⟩)] w fun e w' => e = .returned (.int .i64 (removeD D (logN n)).2) ∧ ∃ T2, TAt w0 ws w' b lx T (removeD D (logN n)).1 lb L T2 := by
  have nx : ∀ {i}, ¬ T i ∧ i ≠ lx → ¬ (T i ∨ i = lx) := fun h e => e.elim h.1 h.2
  have c1 := cell_kept hs h.kept (nx t1)
  have c2 := cell_kept hd h.kept (nx t2)
  have c3 := cell_kept hm h.kept (nx t2)
  have l1 := lt_of_cell c1
  have l2 := lt_of_cell c2
  have s1 : sx < ws.heap.size := lt_of_cell hs
  have s2 : sb < ws.heap.size := lt_of_cell hd
  have u1 := h.out s1 t1.1
  have u2 := h.out s2 t2.1
  have H := Lib.hid h
  have HN := Lib.hid (fun W (hb : Below w.heap.size w W) => Log_f n (by omega) W ((hL.next h.dx.below).next hb).pow)
  have HR := Lib.hid (fun W (h : DX w0 W b D T') => h.op (Remove_f h.dk (logN n) (by rw [logN_len (by omega)]; decide)))
  generalize removeD D (logN n) = rd at *
  generalize logN n = nm at *
  obtain ⟨D2, c⟩ := rd
  simp only at HR ⊢
  clear h hs hd hm
  go_enter Tryz.func67, Tryz.ntmps67
  go_wp2_with fail
  go_region_held3 (fun W => W.cell? ⟨sx, 0, none⟩ = some (.pointer (some ⟨sb, 0, none⟩)) ∧ W.cell? ⟨sb, 0, none⟩ = some (.pointer (some ⟨b, 0, none⟩)) ∧ W.cell? ⟨sb, 2, none⟩ = some (.int .u64 (n : Nat))) (first | go_keep | exact ⟨((undrewB hb1).cell (p := ⟨sx, 0, none⟩) l1).trans c1, ((undrewB hb1).cell (p := ⟨sb, 0, none⟩) l2).trans c2, ((undrewB hb1).cell (p := ⟨sb, 2, none⟩) l2).trans c3⟩ | exact ⟨cell_kept (((undrewB hb1).cell (p := ⟨sx, 0, none⟩) l1).trans c1) k4 u1, cell_kept (((undrewB hb1).cell (p := ⟨sb, 0, none⟩) l2).trans c2) k4 u2, cell_kept (((undrewB hb1).cell (p := ⟨sb, 2, none⟩) l2).trans c3) k4 u2⟩)
      (first
      | (go_at_call 26; with_reducible refine (HN.out _ (Below.refl _ w).drew).mono ?_; rintro e w1 ⟨rfl, hb1⟩)
      | (go_at_call 55; with_reducible refine (HR.out _ (H.out.dx.later (undrewB hb1))).mono ?_; rintro e w4 ⟨rfl, h4, k4⟩))
  have HB1 := Lib.hid (undrewB hb1)
  have H4 := Lib.hid h4
  have K4 := Lib.hid k4
  clear h4 k4 hb1 c1 c2 c3
  go_wp2
  go_ret
  exact ⟨rfl, _, (H.out.later HB1.out).op h4c t4 H4.out K4.out⟩
end Go.Proofs.YtmejdcnnpenaaaaGreatDoor.St
end

/-
  Stores (layer 9): the walk of turn (to the files of the next number). Conditions: what each says.
-/
section
open Go Go.RowKit
namespace Go.Proofs.YtmejdcnnpenaaaaGreatDoor.St
open Base Mp Dk Frame Lg

theorem turn_cells {w : World} {p z k f1 f2 f3 : Value} {t1 t2 t4 t5 : TypeId} {ws : World} (hws : ws = (((w.alloc (.cells #[p] t1)).alloc (.cells #[z] t2)).alloc (.cells #[k] t4)).alloc (.cells #[f1, f2, f3] t5)) :
    Below w.heap.size w ws ∧ ws.heap.size = w.heap.size + 4 ∧ CellsAt ws w.heap.size 1 (fun _ => p) ∧ CellsAt ws (w.heap.size + 1) 1 (fun _ => z) ∧ CellsAt ws (w.heap.size + 1 + 1) 1 (fun _ => k) ∧
      ws.cell? ⟨w.heap.size + 1 + 1 + 1, 0, none⟩ = some f1 ∧ ws.cell? ⟨w.heap.size + 1 + 1 + 1, 1, none⟩ = some f2 ∧ ws.cell? ⟨w.heap.size + 1 + 1 + 1, 2, none⟩ = some f3 := by
  have e1 := cells_made w #[p] t1
  have e2 := cells_made (w.alloc (.cells #[p] t1)) #[z] t2
  have e4 := cells_made ((w.alloc (.cells #[p] t1)).alloc (.cells #[z] t2)) #[k] t4
  have e5 := cells_made (((w.alloc (.cells #[p] t1)).alloc (.cells #[z] t2)).alloc (.cells #[k] t4)) #[f1, f2, f3] t5
  have s1 := alloc_more w (.cells #[p] t1)
  have s2 := alloc_more (w.alloc (.cells #[p] t1)) (.cells #[z] t2)
  have s4 := alloc_more ((w.alloc (.cells #[p] t1)).alloc (.cells #[z] t2)) (.cells #[k] t4)
  have s5 := alloc_more (((w.alloc (.cells #[p] t1)).alloc (.cells #[z] t2)).alloc (.cells #[k] t4)) (.cells #[f1, f2, f3] t5)
  have b1 : Below w.heap.size w (w.alloc (.cells #[p] t1)) := (Below.refl _ _).alloc (Nat.le_refl _) _
  have b2 : Below (w.alloc (.cells #[p] t1)).heap.size (w.alloc (.cells #[p] t1)) ((w.alloc (.cells #[p] t1)).alloc (.cells #[z] t2)) := (Below.refl _ _).alloc (Nat.le_refl _) _
  have b4 : Below ((w.alloc (.cells #[p] t1)).alloc (.cells #[z] t2)).heap.size ((w.alloc (.cells #[p] t1)).alloc (.cells #[z] t2)) (((w.alloc (.cells #[p] t1)).alloc (.cells #[z] t2)).alloc (.cells #[k] t4)) := (Below.refl _ _).alloc (Nat.le_refl _) _
  have b5 : Below (((w.alloc (.cells #[p] t1)).alloc (.cells #[z] t2)).alloc (.cells #[k] t4)).heap.size (((w.alloc (.cells #[p] t1)).alloc (.cells #[z] t2)).alloc (.cells #[k] t4)) ws := by rw [hws]; exact (Below.refl _ _).alloc (Nat.le_refl _) _
  rw [← hws] at e5 s5
  generalize (((w.alloc (.cells #[p] t1)).alloc (.cells #[z] t2)).alloc (.cells #[k] t4)) = w4 at *
  generalize (w.alloc (.cells #[p] t1)).alloc (.cells #[z] t2) = wb at *
  generalize w.alloc (.cells #[p] t1) = wa at *
  clear hws
  refine ⟨((b1.trans (b2.mono b1.size)).trans (b4.mono (by omega))).trans (b5.mono (by omega)), by omega, ?_, ?_, ?_, ?_, ?_, ?_⟩
  · exact (((e1.below b2 (by omega)).below b4 (by omega)).below b5 (by omega)).congr fun j hj => by
      have : j < 1 := hj
      obtain rfl : j = 0 := by omega
      rfl
  · rw [← s1]
    exact ((e2.below b4 (by omega)).below b5 (by omega)).congr fun j hj => by
      have : j < 1 := hj
      obtain rfl : j = 0 := by omega
      rfl
  · rw [← s1, ← s2]
    exact (e4.below b5 (by omega)).congr fun j hj => by
      have : j < 1 := hj
      obtain rfl : j = 0 := by omega
      rfl
  · rw [← s1, ← s2, ← s4]; exact (e5 0 (by show 0 < 3; omega)).1
  · rw [← s1, ← s2, ← s4]; exact (e5 1 (by show 1 < 3; omega)).1
  · rw [← s1, ← s2, ← s4]; exact (e5 2 (by show 2 < 3; omega)).1
theorem turn_steps {w0 ws : World} {b sb sx mx lx g cap : Nat} {D : DiskD} {T : Nat → Prop} (h : DX w0 ws b D T) (hL : Laid w0) (hro : D.room ≤ 1048576) (n m : Nat) (hn : n ≤ 18446744073709551609) (hm : m ≤ 18446744073709551609) {lv : Value} (hs : ws.cell? ⟨sx, 0, none⟩ = some (.pointer (some ⟨sb, 0, none⟩))) (hd : ws.cell? ⟨sb, 0, none⟩ = some (.pointer (some ⟨b, 0, none⟩))) (h2 : ws.cell? ⟨sb, 2, none⟩ = some (.int .u64 (n : Nat))) (hmx : ws.cell? ⟨mx, 0, none⟩ = some (.int .u64 (m : Nat))) (hlx : CellsAt ws lx 1 (fun _ => lv)) (h00 : w0.heap.size ≤ lx)
    (t1 : ¬ T sx ∧ sx ≠ lx) (t2 : ¬ T sb ∧ sb ≠ lx) (t4 : ¬ T lx) (t6 : ¬ T g ∧ g ≠ lx)
    (g1 : ws.cell? ⟨g, 0, none⟩ = some (.func (.func 65) #[] #[.pointer (some ⟨sx, 0, none⟩), .pointer (some ⟨mx, 0, none⟩), .pointer (some ⟨lx, 0, none⟩)]))
    (g2 : ws.cell? ⟨g, 1, none⟩ = some (.func (.func 66) #[] #[.pointer (some ⟨sx, 0, none⟩)]))
    (g3 : ws.cell? ⟨g, 2, none⟩ = some (.func (.func 67) #[] #[.pointer (some ⟨sx, 0, none⟩)])) :
    Calls Tryz.prog 23 #[.slice (some ⟨g, 0, none⟩) 3 cap] ws fun e w' => e = .returned (.int .i64 (turnS D n m).2.2) ∧ (((turnS D n m).2.1 = none ∧ (turnS D n m).2.2 ≠ 0 ∧ TErr w0 ws w' b lx T (turnS D n m).1) ∨ ∃ L lb T', (turnS D n m).2.1 = some L ∧ (turnS D n m).2.2 = 0 ∧ TAt w0 ws w' b lx T (turnS D n m).1 lb L T') := by
  have nx : ∀ {i}, ¬ T i ∧ i ≠ lx → ¬ (T i ∨ i = lx) := fun h e => e.elim h.1 h.2
  have hll := hlx.lt (by omega)
  refine (Steps3 (P1 := fun w' => ∃ L rs lb T', (openL D (logN m)).2.1 = some (L, rs) ∧ TAt w0 ws w' b lx T (openL D (logN m)).1 lb L T')
    (P2 := fun w' => ∃ L rs lb T', (openL D (logN m)).2.1 = some (L, rs) ∧ (oldS (openL D (logN m)).1 n).2 = 0 ∧ TAt w0 ws w' b lx T (oldS (openL D (logN m)).1 n).1 lb L T')
    (P3 := fun w' => ∃ L lb T', (turnS D n m).2.1 = some L ∧ (turnS D n m).2.2 = 0 ∧ TAt w0 ws w' b lx T (turnS D n m).1 lb L T')
    (Q := fun c w' => c = (turnS D n m).2.2 ∧ (turnS D n m).2.1 = none ∧ TErr w0 ws w' b lx T (turnS D n m).1)
    (fun _ _ => by kernel_rfl) (fun _ _ => by kernel_rfl) (fun _ _ => by kernel_rfl) g1 (fun w' h => by obtain ⟨L, rs, lb, T', _, h⟩ := h; exact cell_kept g2 h.kept (nx t6)) (fun w' h => by obtain ⟨L, rs, lb, T', _, _, h⟩ := h; exact cell_kept g3 h.kept (nx t6)) ?_ ?_ ?_).mono ?_
  · refine (Turn1_f h hL hro m hm hs hd hmx hlx t4 h00).mono ?_
    rintro e w' ⟨rfl, ⟨a1, a2, a3⟩ | ⟨L, rs, lb, T', a1, a2, a3⟩⟩
    · have he : turnS D n m = ((openL D (logN m)).1, none, (openL D (logN m)).2.2) := by unfold turnS; rw [a1]
      exact ⟨_, rfl, .inr ⟨a2, by rw [he], by rw [he], by rw [he]; exact a3⟩⟩
    · exact ⟨_, rfl, .inl ⟨a2, L, rs, lb, T', a1, a3⟩⟩
  · rintro w1 ⟨L, rs, lb, T', a1, a3⟩
    refine (Turn2_f a3 hL n hn hs hd h2 hll t1 t2 t4).mono ?_
    rintro e w' ⟨rfl, T2, a4⟩
    refine ⟨_, rfl, ?_⟩
    by_cases hz : (oldS (openL D (logN m)).1 n).2 = 0
    · exact .inl ⟨hz, L, rs, lb, T2, a1, hz, a4⟩
    · have he : turnS D n m = ((oldS (openL D (logN m)).1 n).1, none, (oldS (openL D (logN m)).1 n).2) := by unfold turnS; rw [a1]; exact if_pos hz
      exact .inr ⟨hz, by rw [he], by rw [he], by rw [he]; exact a4.err⟩
  · rintro w2 ⟨L, rs, lb, T', a1, hz, a3⟩
    refine (Turn3_f a3 hL n hn hs hd h2 hll t1 t2 t4).mono ?_
    rintro e w' ⟨rfl, T2, a4⟩
    refine ⟨_, rfl, ?_⟩
    by_cases hz2 : (removeD (oldS (openL D (logN m)).1 n).1 (logN n)).2 = 0
    · have he : turnS D n m = ((removeD (oldS (openL D (logN m)).1 n).1 (logN n)).1, some L, 0) := by unfold turnS; rw [a1]; exact (if_neg fun e => e hz).trans (if_neg fun e => e hz2)
      exact .inl ⟨hz2, L, lb, T2, by rw [he], by rw [he], by rw [he]; exact a4⟩
    · have he : turnS D n m = ((removeD (oldS (openL D (logN m)).1 n).1 (logN n)).1, none, (removeD (oldS (openL D (logN m)).1 n).1 (logN n)).2) := by unfold turnS; rw [a1]; exact (if_neg fun e => e hz).trans (if_pos hz2)
      exact .inr ⟨hz2, by rw [he], by rw [he], by rw [he]; exact a4.err⟩
  · rintro e w' ⟨c, rfl, ⟨rfl, L, lb, T', a1, a2, a3⟩ | ⟨hc, h1, h2, h3⟩⟩
    · exact ⟨by rw [a2], .inr ⟨L, lb, T', a1, a2, a3⟩⟩
    · exact ⟨by rw [h1], .inl ⟨h2, by rw [← h1]; exact hc, h3⟩⟩
theorem turn_err {w0 w ws w2 : World} {b sb lb lx : Nat} {D D2 : DiskD} {S : StoreD} {T U : Nat → Prop} (h : SAt w0 w b sb lb D S T U) (hb : Below w.heap.size w ws) (hlx : w.heap.size ≤ lx ∧ lx < ws.heap.size) (hd : TErr w0 ws w2 b lx T D2) : Kept U w w2 ∧ SX w0 w2 b sb D2 S (More U w w2) := by
  have z1 := hb.size
  have z2 := hd.kept.size
  have hold := h.lx.dx.old
  have z0 := h.lx.dx.below.size
  have hsl := h.st.lt (by omega)
  have hll := h.lx.log.lt (by omega)
  have k : Kept (fun i => T i ∨ i = lx) w w2 := (Kept.of_below (T := fun i => T i ∨ i = lx) hb).trans hd.kept fun i hi => .inl hi
  obtain ⟨T', hT, hx⟩ := hd.is
  have out : ∀ i, i < w.heap.size → ¬ T i → ¬ T' i := fun i hi ht e => by
    rcases hT i e with e | e
    · exact ht e
    · omega
  refine ⟨((Kept.of_below (T := U) hb).trans hd.kept fun i hi => ?_), T', lb, ⟨hx, h.lx.log.kept k hll (fun e => ?_), h.lx.new, out _ hll h.lx.far⟩, h.st.kept k hsl (fun e => ?_), out _ hsl h.far, h.ne, fun i hi => ?_, .inl h.ul, .inl h.us, fun i hi => ?_⟩
  · rcases hi with hi | hi
    · exact .inl (h.sub i hi)
    · exact .inr (by omega)
  · rcases e with e | e
    · exact h.lx.far e
    · omega
  · rcases e with e | e
    · exact h.far e
    · omega
  · rcases hT i hi with e | e
    · exact .inl (h.sub i e)
    · exact .inr ⟨by omega, hx.old i hi⟩
  · rcases hi with hi | hi
    · have := h.own i hi; exact ⟨this.1, by omega⟩
    · exact ⟨by omega, hi.2⟩
theorem turn_done {w0 w ws w2 w' : World} {b sb lb lb2 lx m : Nat} {br : Bool} {D D2 : DiskD} {S : StoreD} {T T' U : Nat → Prop} {L : LogD} (h : SAt w0 w b sb lb D S T U) (hb : Below w.heap.size w ws) (hlx : w.heap.size ≤ lx ∧ lx < ws.heap.size) (hd : TAt w0 ws w2 b lx T D2 lb2 L T') (hk : Kept (fun i => i = sb) w2 w') (hc : CellsAt w' sb 4 (storeCell b lb2 ⟨L, m, br⟩)) : Kept U w w' ∧ SX w0 w' b sb D2 ⟨L, m, br⟩ (More U w w') := by
  have z1 := hb.size
  have z2 := hd.kept.size
  have z3 := hk.size
  have z0 := h.lx.dx.below.size
  have hsl := h.st.lt (by omega)
  have hll := hd.cells.lt (by omega)
  have h0 := (h.own sb h.us).1
  have hnw := hd.new
  have fs : ¬ T' sb := hd.out (by omega) h.far
  refine ⟨((Kept.of_below (T := U) hb).trans hd.kept fun i hi => ?_).trans hk fun i hi => ?_, T', lb2, ⟨hd.dx.next hk fun i hi => by rw [hi]; exact ⟨h0, fs⟩, hd.cells.kept hk hll (fun e => by omega), by omega, hd.far⟩, hc, fs, by omega, fun i hi => ?_, .inr ⟨by omega, by omega⟩, .inl h.us, fun i hi => ?_⟩
  · rcases hi with hi | hi
    · exact .inl (h.sub i hi)
    · exact .inr (by omega)
  · rw [hi]; exact .inl h.us
  · rcases hd.sub i hi with e | e
    · exact .inl (h.sub i e)
    · have := hd.dx.old i hi; exact .inr ⟨by omega, by omega⟩
  · rcases hi with hi | hi
    · have := h.own i hi; exact ⟨this.1, by omega⟩
    · exact ⟨by omega, hi.2⟩
set_option maxRecDepth 100000 in
set_option maxHeartbeats 4000000 in
theorem Turn_f {w0 w : World} {b sb : Nat} {D : DiskD} {S : StoreD} {U : Nat → Prop} (h : SX w0 w b sb D S U) (hL : Laid w0) (hro : D.room ≤ 1048576) (m : Nat) (hn : S.number ≤ 18446744073709551609) (hm : m ≤ 18446744073709551609) :
    Calls Tryz.prog 35 #[.pointer (some ⟨sb, 0, none⟩), .int .u64 (m : Nat)] w fun e w' => e = .returned (.int .i64 (turnS D S.number m).2.2) ∧ Kept U w w' ∧
      (((turnS D S.number m).2.1 = none ∧ (turnS D S.number m).2.2 ≠ 0 ∧ SX w0 w' b sb (turnS D S.number m).1 S (More U w w')) ∨ ∃ L, (turnS D S.number m).2.1 = some L ∧ (turnS D S.number m).2.2 = 0 ∧ SX w0 w' b sb (turnS D S.number m).1 ⟨L, m, S.broken⟩ (More U w w')) := by
  obtain ⟨T, lb, h⟩ := h
  have HS := Lib.hid (fun ws (hb : Below w.heap.size w ws) (sx mx lx g cap : Nat) => turn_steps (sb := sb) (sx := sx) (mx := mx) (lx := lx) (g := g) (cap := cap) (lv := .pointer none) (h.lx.dx.later hb) hL hro S.number m hn hm)
  have H := Lib.hid h
  have hcd := (h.st 0 (by omega)).1
  have hc2 := (h.st 2 (by omega)).1
  simp only [storeCell] at hcd hc2
  have hsl := h.st.lt (by omega)
  have hold := h.lx.dx.old
  have hz0 := h.lx.dx.below.size
  have hfar := h.far
  generalize hnn : S.number = n at *
  have HNN := Lib.hid hnn
  generalize turnS D n m = r at *
  clear h hnn
  go_enter Tryz.func35, Tryz.ntmps35
  go_wp2_with fail
  obtain ⟨q1, q3, q4, q5, q6, q8, q9, qa⟩ := turn_cells (w := w) (ws := _) rfl
  have q60 := (q6 0 (by omega)).1
  have q40 := (q4 0 (by omega)).1
  have q50 := (q5 0 (by omega)).1
  have qd := (q1.cell (p := ⟨sb, 0, none⟩) hsl).trans hcd
  have q2 := (q1.cell (p := ⟨sb, 2, none⟩) hsl).trans hc2
  have tn : ∀ i, w.heap.size ≤ i → ¬ T i := fun i hi ht => by have := hold i ht; omega
  with_reducible refine (HS.out _ q1 _ _ _ _ _ q40 qd q2 q50 q6 (by omega) ⟨tn _ (by omega), by omega⟩ ⟨hfar, by omega⟩ (tn _ (by omega)) ⟨tn _ (by omega), by omega⟩ q8 q9 qa).mono ?_
  have Q := Lib.hid (And.intro q1 (And.intro q3 (And.intro q4 q5)))
  clear q4 q5 q6 q8 q9 qa q60 q40 q50 qd q2 HS
  generalize ((((w.alloc (Obj.cells _ _)).alloc (Obj.cells _ _)).alloc (Obj.cells _ _)).alloc (Obj.cells _ _)) = ws at *
  rintro e w2 ⟨rfl, ⟨a1, a2, a3⟩ | ⟨L, lb2, T', a1, a2, a3⟩⟩
  · have HT := Lib.hid (turn_err H.out q1 (lx := w.heap.size + 1 + 1) ⟨by omega, by omega⟩ a3)
    have HA := Lib.hid (And.intro a1 a2)
    have q : (r.2.2 == 0) = false := by simpa using a2
    clear a1 a2 a3 q1 q3 tn hold
    go_wp2
    go_ret
    exact ⟨rfl, HT.out.1, .inl ⟨HA.out.1, HA.out.2, HT.out.2⟩⟩
  · have HA := Lib.hid (And.intro a1 a2)
    have HT := Lib.hid a3
    obtain ⟨p1, p3, p4, p5⟩ := Q.out
    have nt : ∀ i, ¬ T i → i ≠ w.heap.size + 1 + 1 → ¬ (T i ∨ i = w.heap.size + 1 + 1) := fun i h1 h2 e => e.elim h1 h2
    have r4 := p4.kept a3.kept (by omega) (nt _ (tn _ (Nat.le_refl _)) (by omega))
    have r5 := p5.kept a3.kept (by omega) (nt _ (tn _ (by omega)) (by omega))
    have r0 := (H.out.st.below p1 hsl).kept a3.kept (by omega) (nt _ hfar (by omega))
    have HR0 := Lib.hid r0
    have c4 := (r4 0 (by omega)).1
    have c5 := (r5 0 (by omega)).1
    have cl := a3.cl
    have d1 := (r0 1 (by omega)).1
    have e1 := (r0 1 (by omega)).2
    have d2 := (r0 2 (by omega)).1
    have e2 := (r0 2 (by omega)).2
    have l4 := lt_of_cell c4
    have l5 := lt_of_cell c5
    have ll := lt_of_cell cl
    have ld := lt_of_cell d1
    simp only [storeCell] at d1 d2
    rw [a2]
    clear r4 r5 r0 a1 a2 a3 q1 q3 tn nt p1 p3 p4 p5 hold hfar hcd hc2
    go_wp2_with fail
    go_region
    go_wp2
    go_ret
    have hk : Kept (fun i => i = sb) w2 ((w2.setCell ⟨sb, 1, none⟩ (.pointer (some ⟨lb2, 0, none⟩))).setCell ⟨sb, 2, none⟩ (.int .u64 (m : Nat))).drew := (Kept.setCell (p := ⟨sb, 2, none⟩) (Kept.setCell (p := ⟨sb, 1, none⟩) (Kept.refl (fun i => i = sb) w2) (.inl rfl) _) (.inl rfl) _).trans (Kept.of_below (T := fun i => i = sb) (Below.refl _ _).drew) fun _ e => .inl e
    obtain ⟨p1, p3, p4, p5⟩ := Q.out
    obtain ⟨b1, b2⟩ := turn_done (m := m) (br := S.broken) H.out p1 ⟨by omega, by omega⟩ HT.out hk ((CellsAt.set (CellsAt.set HR0.out (i := 1) (by omega) (.pointer (some ⟨lb2, 0, none⟩))) (i := 2) (by omega) (.int .u64 (m : Nat))).congr fun j hj => by
      have : j = 0 ∨ j = 1 ∨ j = 2 ∨ j = 3 := by omega
      rcases this with rfl | rfl | rfl | rfl <;> rfl)
    exact ⟨by rw [HA.out.2]; rfl, b1, .inr ⟨L, HA.out.1, HA.out.2, b2⟩⟩
end Go.Proofs.YtmejdcnnpenaaaaGreatDoor.St
end

/-
  Stores (layer 9): the walk of Save. Conditions: the snapshot is no longer than a frame's text may be; the number is below its bound; the disk's room is no more than a scan takes; the tables are laid.
-/
section
open Go Go.RowKit
namespace Go.Proofs.YtmejdcnnpenaaaaGreatDoor.St
open Base Mp Dk Frame Lg

theorem create_room (D : DiskD) (n : Key) : (createD D n).1.room = D.room := by
  unfold createD
  split
  · rfl
  split
  · rfl
  split
  · rfl
  split
  · rfl
  · rw [done_room]
theorem append_room (D : DiskD) (n s : Key) : (appendD D n s).1.room = D.room := op_room _ _ _ fun F => by
  split
  · rfl
  · rw [done_room]; rfl
theorem writeM_room (D : DiskD) (n x : Key) : (writeM D n x).1.room = D.room := by
  unfold writeM
  split
  · exact create_room _ _
  split
  · exact (append_room _ _ _).trans (create_room _ _)
  · exact (sync_room _ _).trans ((append_room _ _ _).trans (create_room _ _))
theorem write_room (D : DiskD) (m : Nat) (x : Key) : (writeS D m x).1.room = D.room := by
  unfold writeS
  split
  · exact (remove_room _ _).trans (writeM_room _ _ _)
  · exact writeM_room _ _ _
/-- The disk was called. -/
theorem SAt.disk {w0 w w' : World} {b sb lb : Nat} {D D' : DiskD} {S : StoreD} {T U : Nat → Prop} (h : SAt w0 w b sb lb D S T U) (hd : DX w0 w' b D' (More T w w')) (hk : Kept T w w') : SX w0 w' b sb D' S (More U w w') ∧ Kept U w w' := by
  have hsl := h.st.lt (by omega)
  have hz := hk.size
  have h0 := h.lx.dx.below.size
  refine ⟨⟨More T w w', lb, h.lx.disk hd hk, h.st.kept hk hsl h.far, fun e => ?_, h.ne, fun i hi => hi.imp (h.sub i) id, .inl h.ul, .inl h.us, fun i hi => ?_⟩, hk.mono h.sub⟩
  · rcases e with e | e
    · exact h.far e
    · omega
  · rcases hi with hi | hi
    · have := h.own i hi; exact ⟨this.1, by omega⟩
    · exact ⟨by omega, hi.2⟩
theorem more_more {U : Nat → Prop} {w w1 w2 : World} (h1 : w.heap.size ≤ w1.heap.size) (h2 : w1.heap.size ≤ w2.heap.size) : More (More U w w1) w1 w2 = More U w w2 := by
  funext i
  apply propext
  constructor
  · rintro ((h | h) | h)
    · exact .inl h
    · exact .inr ⟨h.1, by omega⟩
    · exact .inr ⟨by omega, h.2⟩
  · rintro (h | h)
    · exact .inl (.inl h)
    · rcases Nat.lt_or_ge i w1.heap.size with e | e
      · exact .inl (.inr ⟨h.1, e⟩)
      · exact .inr ⟨e, h.2⟩
theorem kept_more {U : Nat → Prop} {w w1 w2 : World} (h1 : Kept U w w1) (h2 : Kept (More U w w1) w1 w2) : Kept U w w2 := h1.trans h2 fun _ hi => hi.imp id fun e => e.1
/-- The store's mark. -/
theorem SX.mark {w0 w : World} {b sb : Nat} {D : DiskD} {S : StoreD} {U : Nat → Prop} (h : SX w0 w b sb D S U) (v : Bool) : SX w0 (w.setCell ⟨sb, 3, none⟩ (.bool v)) b sb D { S with broken := v } U ∧ Kept U w (w.setCell ⟨sb, 3, none⟩ (.bool v)) := by
  obtain ⟨T, lb, h⟩ := h
  have hk : Kept (fun i => i = sb) w (w.setCell ⟨sb, 3, none⟩ (.bool v)) := Kept.setCell (p := ⟨sb, 3, none⟩) (Kept.refl (fun i => i = sb) w) (.inl rfl) _
  have h0 := h.own sb h.us
  refine ⟨⟨T, lb, h.lx.next hk fun i hi => by rw [hi]; exact ⟨h0.1, h.far, h.ne⟩, (CellsAt.set h.st (i := 3) (by omega) (.bool v)).congr fun j hj => ?_, h.far, h.ne, h.sub, h.ul, h.us, fun i hi => ?_⟩, hk.mono fun i hi => by rw [hi]; exact h.us⟩
  · have : j = 0 ∨ j = 1 ∨ j = 2 ∨ j = 3 := by omega
    rcases this with rfl | rfl | rfl | rfl <;> rfl
  · rw [set_size]; exact h.own i hi
theorem SX.cells {w0 w : World} {b sb : Nat} {D : DiskD} {S : StoreD} {U : Nat → Prop} (h : SX w0 w b sb D S U) : ∃ lb, CellsAt w sb 4 (storeCell b lb S) := by
  obtain ⟨T, lb, h⟩ := h
  exact ⟨lb, h.st⟩
theorem told_sx {w0 w w' : World} {b sb lb : Nat} {D : DiskD} {S S' : StoreD} {T U : Nat → Prop} (h : SAt w0 w b sb lb D S T U) (hl : S'.log = S.log) (hk : Kept (fun i => i = sb) w w') (hc : CellsAt w' sb 4 (storeCell b lb S')) : SX w0 w' b sb D S' (More U w w') ∧ Kept U w w' := by
  have h0 := h.own sb h.us
  have hz := hk.size
  have hz0 := h.lx.dx.below.size
  refine ⟨⟨T, lb, by rw [hl]; exact h.lx.next hk fun i hi => by rw [hi]; exact ⟨h0.1, h.far, h.ne⟩, hc, h.far, h.ne, fun i hi => .inl (h.sub i hi), .inl h.ul, .inl h.us, fun i hi => ?_⟩, hk.mono fun i hi => by rw [hi]; exact h.us⟩
  rcases hi with hi | hi
  · have := h.own i hi; exact ⟨this.1, by omega⟩
  · exact ⟨by omega, hi.2⟩
theorem STold_x {w0 w : World} {b sb : Nat} {D : DiskD} {S : StoreD} {U : Nat → Prop} (h : SX w0 w b sb D S U) (c : Int) : Calls Tryz.prog 34 #[.pointer (some ⟨sb, 0, none⟩), .int .i64 c] w fun e w' => e = .returned (.int .i64 c) ∧ SX w0 w' b sb D (toldS S c) (More U w w') ∧ Kept U w w' := by
  obtain ⟨T, lb, h⟩ := h
  refine (STold_f h.st c).mono ?_
  rintro e w' ⟨rfl, h1, h2⟩
  exact ⟨rfl, told_sx h (by unfold toldS; split <;> rfl) h2 h1⟩
theorem Write_x {w0 w : World} {b sb : Nat} {D : DiskD} {S : StoreD} {U : Nat → Prop} (h : SX w0 w b sb D S U) (hL : Laid w0) (m : Nat) (hm : m ≤ 18446744073709551609) (x : Key) (hx : x.length ≤ 1048576) :
    Calls Tryz.prog 33 #[.pointer (some ⟨sb, 0, none⟩), .int .u64 (m : Nat), .string (B x)] w fun e w' => e = .returned (.int .i64 (writeS D m x).2) ∧ SX w0 w' b sb (writeS D m x).1 S (More U w w') ∧ Kept U w w' := by
  obtain ⟨T, lb, h⟩ := h
  refine (Write_f h hL m hm x hx).mono ?_
  rintro e w' ⟨rfl, h1, h2⟩
  exact ⟨rfl, h.disk h1 h2⟩
set_option maxRecDepth 100000 in
set_option maxHeartbeats 4000000 in
theorem SSave_f {w0 w : World} {b sb : Nat} {D : DiskD} {S : StoreD} {U : Nat → Prop} (h : SX w0 w b sb D S U) (hL : Laid w0) (hro : D.room ≤ 1048576) (x : Key) (hx : x.length ≤ 1048576) (hn : S.number < 1099511627776) :
    Calls Tryz.prog 10 #[.pointer (some ⟨sb, 0, none⟩), .string (B x)] w (SPost w0 w b sb U (saveS D S x)) := by
  obtain ⟨lb, hst⟩ := h.cells
  have HR := Lib.hid (SReady_y hst)
  have H := Lib.hid h
  by_cases hb : S.broken = true
  · have HE := Lib.hid (show saveS D S x = (D, S, 3) from if_pos hb)
    rw [if_pos hb] at HR
    clear h hb hst
    go_enter Tryz.func10, Tryz.ntmps10
    go_wp2_with fail
    with_reducible refine HR.out.mono ?_
    rintro e w1 ⟨rfl, rfl⟩
    go_wp2
    go_ret
    rw [HE.out]
    exact ⟨rfl, by rw [more_self]; exact H.out, Kept.refl _ _⟩
  · obtain ⟨m, hmm⟩ : ∃ m, m = S.number + 1 := ⟨_, rfl⟩
    have hm9 : m ≤ 18446744073709551609 := by omega
    have HE := Lib.hid (show saveS D S x = if (writeS D m x).2 ≠ 0 then ((writeS D m x).1, toldS S (writeS D m x).2, (writeS D m x).2) else
      match (turnS (writeS D m x).1 S.number m).2.1 with
      | none => ((turnS (writeS D m x).1 S.number m).1, { S with broken := true }, (turnS (writeS D m x).1 S.number m).2.2)
      | some L => ((turnS (writeS D m x).1 S.number m).1, ⟨L, m, false⟩, 0) by rw [hmm]; exact if_neg hb)
    rw [if_neg hb] at HR
    have HW := Lib.hid (Write_x h hL m hm9 x hx)
    have HT := Lib.hid (fun W U' (h : SX w0 W b sb (writeS D m x).1 S U') => Turn_f h hL (by rw [write_room]; exact hro) m (by omega) hm9)
    have c2 := (hst 2 (by omega)).1
    simp only [storeCell] at c2
    have hx2 : ¬ (1048576 : Int) < (x.length : Int) := by omega
    have hn2 : decide ((1099511627776 : Int) ≤ (S.number : Int)) = false := decide_eq_false (by omega)
    have wr : IntKind.u64.wrap ((S.number : Int) + 1) = (m : Int) := by rw [IntKind.wrap_u64]; omega
    have HS := Lib.hid (show S.broken = false by simpa using hb)
    clear h hb hst hmm
    obtain ⟨rr, hrr⟩ : ∃ rr, rr = writeS D m x := ⟨_, rfl⟩
    rw [← hrr] at HW HT HE
    clear hrr hn hro hm9
    obtain ⟨D1, c⟩ := rr
    simp only at HW HT HE
    go_enter Tryz.func10, Tryz.ntmps10
    go_wp2_with fail
    with_reducible refine HR.out.mono ?_
    rintro e w1 ⟨rfl, rfl⟩
    go_wp2_with fail
    with_reducible refine HW.out.mono ?_
    rintro e w2 ⟨rfl, h2, k2⟩
    have H2 := Lib.hid h2
    have K2 := Lib.hid k2
    obtain ⟨lb2, hst2⟩ := h2.cells
    have d2 := (hst2 2 (by omega)).1
    simp only [storeCell] at d2
    clear h2 k2 hst2 HW HR
    by_cases hc : c = 0
    · subst hc
      have HT2 := Lib.hid (HT.out w2 _ H2.out)
      rw [if_neg (fun e => e rfl)] at HE
      obtain ⟨rr, hrr⟩ : ∃ rr, rr = turnS D1 S.number m := ⟨_, rfl⟩
      rw [← hrr] at HT2 HE
      clear hrr HT
      obtain ⟨D2, o, c3⟩ := rr
      simp only at HT2 HE
      go_wp2_with fail
      with_reducible refine HT2.out.mono ?_
      rintro e w3 ⟨rfl, k3, ⟨a1, a2, h3⟩ | ⟨L, a1, a2, h3⟩⟩
      · subst a1
        have H3 := Lib.hid h3
        have K3 := Lib.hid k3
        obtain ⟨lb3, hst3⟩ := h3.cells
        have e3 := (hst3 3 (by omega)).1
        have f3 := (hst3 3 (by omega)).2
        simp only [storeCell] at e3
        have q : (c3 != 0) = true := by simpa using a2
        clear h3 k3 hst3 a2 HT2
        go_wp2
        go_ret
        obtain ⟨b1, b2⟩ := H3.out.mark true
        rw [more_more K2.out.size K3.out.size] at b1
        have hz : (w3.setCell ⟨sb, 3, none⟩ (.bool true)).heap.size = w3.heap.size := set_size _ _ _
        rw [HE.out]
        refine ⟨rfl, ?_, (kept_more K2.out K3.out).trans b2 fun i hi => ?_⟩
        · have : More U w (w3.setCell ⟨sb, 3, none⟩ (.bool true)) = More U w w3 := by funext i; unfold More; rw [hz]
          rw [this]; exact b1
        · rcases hi with (hi | hi) | hi
          · exact .inl hi
          · exact .inr hi.1
          · have := K2.out.size; exact .inr (by omega)
      · subst a1
        subst a2
        have H3 := Lib.hid h3
        have K3 := Lib.hid k3
        obtain ⟨lb3, hst3⟩ := h3.cells
        have e3 := (hst3 3 (by omega)).1
        have f3 := (hst3 3 (by omega)).2
        simp only [storeCell] at e3
        clear h3 k3 hst3 HT2
        go_wp2
        go_ret
        obtain ⟨b1, b2⟩ := H3.out.mark false
        rw [more_more K2.out.size K3.out.size] at b1
        have hz : (w3.setCell ⟨sb, 3, none⟩ (.bool false)).heap.size = w3.heap.size := set_size _ _ _
        rw [HE.out]
        refine ⟨rfl, ?_, (kept_more K2.out K3.out).trans b2 fun i hi => ?_⟩
        · have : More U w (w3.setCell ⟨sb, 3, none⟩ (.bool false)) = More U w w3 := by funext i; unfold More; rw [hz]
          rw [this]; exact b1
        · rcases hi with (hi | hi) | hi
          · exact .inl hi
          · exact .inr hi.1
          · have := K2.out.size; exact .inr (by omega)
    · have HC := Lib.hid hc
      have q : (c != 0) = true := by simpa using hc
      have HTO := Lib.hid (STold_x H2.out c)
      rw [if_pos hc] at HE
      clear hc HT
      go_wp2_with fail
      with_reducible refine HTO.out.mono ?_
      rintro e w3 ⟨rfl, h3, k3⟩
      have H3 := Lib.hid h3
      have K3 := Lib.hid k3
      clear h3 k3
      go_wp2
      go_ret
      rw [HE.out]
      refine ⟨rfl, ?_, kept_more K2.out K3.out⟩
      have h := H3.out
      rw [more_more K2.out.size K3.out.size] at h
      exact h
end Go.Proofs.YtmejdcnnpenaaaaGreatDoor.St
end
