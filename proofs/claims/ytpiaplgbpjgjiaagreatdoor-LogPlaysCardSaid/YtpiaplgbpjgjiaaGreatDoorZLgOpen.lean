/-
  Logs (layer 8): the walk of Open. Conditions: the name is no longer than a string may be; the disk's room is no more than a scan takes; the sum's table is laid.
-/
import Derived.Test.YtpiaplgbpjgjiaaGreatDoorZLgA
open Go Go.RowKit
namespace Go.Proofs.YtpiaplgbpjgjiaaGreatDoor.Lg
open Base Mp Dk Frame

/-- What Open answers: the disk behind it; the log and its records, apart from the disk, or the error. -/
def OpenPost (w0 w : World) (b : Nat) (T : Nat → Prop) (r : DiskD × Option (LogD × List Key) × Int) (e : Ending) (w' : World) : Prop :=
  ∃ T', (∀ i, T' i → T i ∨ w.heap.size ≤ i) ∧ DX w0 w' b r.1 T' ∧ Kept T w w' ∧
    ((r.2.1 = none ∧ r.2.2 ≠ 0 ∧ e = .returned (.tuple #[.pointer none, .slice none 0 0, .int .i64 r.2.2])) ∨
     ∃ L rs lb v, r.2.1 = some (L, rs) ∧ r.2.2 = 0 ∧ e = .returned (.tuple #[.pointer (some ⟨lb, 0, none⟩), v, .int .i64 0]) ∧ CellsAt w' lb 6 (logCell b L) ∧ w.heap.size ≤ lb ∧ ¬ T' lb ∧ w'.ownsRow w.heap.size 9 1 v rs.length (strs rs) ∧ ∀ k, v.ownBlock = some k → ¬ T' k ∧ k ≠ lb)
/-- The last steps, behind the disk's answer. -/
theorem open_end {w0 w w1 w2 w3 : World} {b : Nat} {D D2 : DiskD} {T T1 : Nat → Prop} {n t : Key} {v : Value} (h1 : ∀ i, T1 i → T i ∨ (w.heap.size ≤ i ∧ i < w1.heap.size)) (hx : DX w0 w1 b D T1) (k1 : Kept T w w1) (hb2 : Below w1.heap.size w1 w2) (hr : w2.ownsRow w1.heap.size 9 1 v (recs t).length (strs (recs t))) (h3 : DX w0 w3 b D2 (More T1 w2 w3)) (k3 : Kept T1 w2 w3) :
    ∃ T', (∀ i, T' i → T i ∨ w.heap.size ≤ i) ∧ DX w0 (w3.alloc (.cells #[.pointer (some ⟨b, 0, none⟩), .string (B n), .int .i64 (good t : Int), .int .i64 ((recs t).length : Int), .int .i64 ((recs t).length : Int), .bool false] 70)) b D2 T' ∧ Kept T w (w3.alloc (.cells #[.pointer (some ⟨b, 0, none⟩), .string (B n), .int .i64 (good t : Int), .int .i64 ((recs t).length : Int), .int .i64 ((recs t).length : Int), .bool false] 70)) ∧
      CellsAt (w3.alloc (.cells #[.pointer (some ⟨b, 0, none⟩), .string (B n), .int .i64 (good t : Int), .int .i64 ((recs t).length : Int), .int .i64 ((recs t).length : Int), .bool false] 70)) w3.heap.size 6 (logCell b (fresh n t)) ∧ w.heap.size ≤ w3.heap.size ∧ ¬ T' w3.heap.size ∧
      (w3.alloc (.cells #[.pointer (some ⟨b, 0, none⟩), .string (B n), .int .i64 (good t : Int), .int .i64 ((recs t).length : Int), .int .i64 ((recs t).length : Int), .bool false] 70)).ownsRow w.heap.size 9 1 v (recs t).length (strs (recs t)) ∧ ∀ k, v.ownBlock = some k → ¬ T' k ∧ k ≠ w3.heap.size := by
  have hal : Below w3.heap.size w3 (w3.alloc (.cells #[.pointer (some ⟨b, 0, none⟩), .string (B n), .int .i64 (good t : Int), .int .i64 ((recs t).length : Int), .int .i64 ((recs t).length : Int), .bool false] 70)) := (Below.refl _ _).alloc (Nat.le_refl _) _
  have hc := cells_made w3 #[.pointer (some ⟨b, 0, none⟩), .string (B n), .int .i64 (good t : Int), .int .i64 ((recs t).length : Int), .int .i64 ((recs t).length : Int), .bool false] 70
  have z1 := k1.size
  have z2 := hb2.size
  have z3 := k3.size
  have hro : ∀ k, v.ownBlock = some k → w1.heap.size ≤ k ∧ k < w2.heap.size := fun k hk => hr.lt k hk
  have hT1 : ∀ i, T1 i → i < w1.heap.size := hx.old
  refine ⟨More T1 w2 w3, fun i hi => ?_, h3.later hal, ?_, hc.congr fun j hj => ?_, by omega, fun hi => ?_, ?_, fun k hk => ⟨fun hi => ?_, fun e => ?_⟩⟩
  · rcases hi with hi | hi
    · rcases h1 i hi with h | h
      · exact .inl h
      · exact .inr h.1
    · exact .inr (by omega)
  · refine Kept.trans (k1.trans (Kept.of_below (T := T) hb2) (fun _ h => .inl h)) ((k3.trans (Kept.of_below (T := T1) hal) (fun _ h => .inl h)).mono (T' := fun i => T i ∨ w.heap.size ≤ i) fun i hi => ?_) (fun _ h => h)
    rcases h1 i hi with h | h
    · exact .inl h
    · exact .inr h.1
  · have : j = 0 ∨ j = 1 ∨ j = 2 ∨ j = 3 ∨ j = 4 ∨ j = 5 := by have : j < 6 := hj; omega
    rcases this with rfl | rfl | rfl | rfl | rfl | rfl <;> rfl
  · rcases hi with hi | hi
    · have := hT1 _ hi; omega
    · omega
  · have ho : w3.ownsRow w1.heap.size 9 1 v (recs t).length (strs (recs t)) := own_kept hr k3 (fun r hr2 ht => by have := hT1 r ht; have := hro r hr2; omega)
    exact own_lower (ho.alloc _) z1
  · have := hro k hk
    rcases hi with hi | hi
    · have := hT1 _ hi; omega
    · omega
  · have := hro k hk; omega
set_option maxRecDepth 100000 in
set_option maxHeartbeats 4000000 in
theorem LOpen_f {w0 w : World} {b : Nat} {D : DiskD} {T : Nat → Prop} (h : DX w0 w b D T) (hT : Crc.TabOk w0) (n : Key) (hn : n.length ≤ maxLen) (hro : D.room ≤ 1048576) :
    Calls Tryz.prog 8 #[.pointer (some ⟨b, 0, none⟩), .string (B n)] w (OpenPost w0 w b T (openL D n)) := by
  have HRD := Lib.hid (kRead h.dw n hn)
  have HX := Lib.hid h
  have HTB := Lib.hid (fun W (hb : Below w0.heap.size w0 W) => hT.below hT.lt hb)
  cases hl : lookL D.files (keyS n) with
  | none =>
    rw [show readD D n = ([], 5) by unfold readD findD; rw [hl]] at HRD
    have HCR := Lib.hid (h.op (Create_f h.dk n hn))
    dsimp only at HRD
    by_cases hc : (createD D n).2 = 0
    · have HSC := Lib.hid (fun W (hb : Below w0.heap.size w0 W) => Scan_g [] W (by simp) (HTB.out W hb))
      rw [show good [] = 0 from rfl] at HSC
      have HE := Lib.hid (show openL D n = ends n [] (syncD (createD D n).1 n) by unfold openL; rw [hl]; simp only; rw [if_pos hc]; unfold mend; rw [if_neg (by decide), if_pos (.inl rfl)])
      rw [hc] at HCR
      clear h hc hl
      go_enter Tryz.func8, Tryz.ntmps8
      go_wp2_with fail
      with_reducible refine HRD.out.mono ?_
      rintro e w1 ⟨rfl, rfl⟩
      go_wp2_with fail
      with_reducible refine HCR.out.mono ?_
      rintro e w2 ⟨rfl, h2, k2⟩
      have H2 := Lib.hid h2
      have K2 := Lib.hid k2
      clear h2 k2 HCR HRD
      go_wp2_with fail
      with_reducible refine (HSC.out _ H2.out.below).mono ?_
      rintro e w3 ⟨v, rfl, hr3, hb3⟩
      obtain ⟨p, cap, rfl, -⟩ := own_take hr3 (Nat.le_refl _)
      have HR3 := Lib.hid hr3
      have HB3 := Lib.hid hb3
      have HSY := Lib.hid ((H2.out.later hb3).op (Sync_f (H2.out.later hb3).dk n hn))
      clear hr3 hb3 HSC
      obtain ⟨rd, hrd⟩ : ∃ rd, rd = syncD (createD D n).1 n := ⟨_, rfl⟩
      rw [← hrd] at HE HSY
      clear hrd
      obtain ⟨D4, cc⟩ := rd
      simp only at HSY
      go_wp2_with fail
      with_reducible refine HSY.out.mono ?_
      rintro e w4 ⟨rfl, h4, k4⟩
      have H4 := Lib.hid h4
      have K4 := Lib.hid k4
      clear h4 k4 HSY
      by_cases hc : cc = 0
      · subst hc
        go_wp2_with fail
        go_ret3
        rw [HE.out]
        obtain ⟨T', a1, a2, a3, a4, a5, a6, a7, a8⟩ := open_end (n := n) (fun i hi => hi) H2.out K2.out HB3.out HR3.out H4.out K4.out
        refine ⟨T', a1, a2, a3, .inr ⟨fresh n [], recs [], _, _, rfl, rfl, rfl, a4, a5, a6, a7, a8⟩⟩
      · have hcb : (cc != 0) = true := by simpa using hc
        have HNC := Lib.hid hc
        clear hc
        go_wp2_with fail
        go_ret3
        rw [HE.out]
        have hz := HB3.out.size
        refine ⟨More (More T w w2) w3 w4, fun i hi => ?_, by unfold ends; rw [if_neg HNC.out]; exact H4.out, ?_, .inl ⟨by unfold ends; rw [if_neg HNC.out], by unfold ends; rw [if_neg HNC.out]; exact HNC.out, by unfold ends; rw [if_neg HNC.out]; rfl⟩⟩
        · rcases hi with (hi | hi) | hi
          · exact .inl hi
          · exact .inr hi.1
          · have := K2.out.size; exact .inr (by omega)
        · refine (K2.out.trans (Kept.of_below (T := T) HB3.out) (fun _ h => .inl h)).trans K4.out fun i hi => ?_
          exact hi.imp id (fun h => h.1)
    · have HE := Lib.hid (show openL D n = ((createD D n).1, none, (createD D n).2) by unfold openL; rw [hl]; simp only; rw [if_neg hc])
      have HNC := Lib.hid hc
      generalize hcc : (createD D n).2 = cc at *
      have hcb : (cc != 0) = true := by simpa using hc
      clear h hc hl hcc
      go_enter Tryz.func8, Tryz.ntmps8
      go_wp2_with fail
      with_reducible refine HRD.out.mono ?_
      rintro e w1 ⟨rfl, rfl⟩
      go_wp2_with fail
      with_reducible refine HCR.out.mono ?_
      rintro e w2 ⟨rfl, h2, k2⟩
      have H2 := Lib.hid h2
      have K2 := Lib.hid k2
      clear h2 k2 HCR HRD
      go_wp2_with fail
      go_ret3
      rw [HE.out]
      exact ⟨_, fun i hi => hi.imp id (fun h => h.1), H2.out, K2.out, .inl ⟨rfl, HNC.out, rfl⟩⟩
  | some F =>
    have hsh : F.bytes.length ≤ 1048576 := Nat.le_trans (total_mem (mem_of_look hl)) (Nat.le_trans h.fine.fits hro)
    rw [show readD D n = (F.bytes, 0) by unfold readD findD; rw [hl]] at HRD
    dsimp only at HRD
    have HSC := Lib.hid (fun W (hb : Below w0.heap.size w0 W) => Scan_g F.bytes W hsh (HTB.out W hb))
    have HE0 := Lib.hid (show openL D n = ends n F.bytes (mend D n F.bytes false) by unfold openL; rw [hl])
    have HLD := Lib.hid (fun (W : World) (h : DX w0 W b D T) => rLoose h.dw n hn)
    have hrl := recs_len F.bytes
    by_cases hg : good F.bytes < F.bytes.length
    · have HE := Lib.hid (show openL D n = ends n F.bytes (cutD D n (good F.bytes : Int)) by rw [HE0.out]; unfold mend; rw [if_pos hg])
      have hgi : ((good F.bytes : Nat) : Int) < ((F.bytes.length : Nat) : Int) := by omega
      have HCU := Lib.hid (fun (W : World) (h : DX w0 W b D T) => h.op (Cut_f h.dk n (good F.bytes : Int) hn (by omega)))
      clear h hl
      obtain ⟨rd, hrd⟩ : ∃ rd, rd = cutD D n (good F.bytes : Int) := ⟨_, rfl⟩
      rw [← hrd] at HE HCU
      clear hrd
      obtain ⟨D4, cc⟩ := rd
      simp only at HCU
      generalize hgt : good F.bytes = gt at *
      generalize F.bytes = t at *
      go_enter Tryz.func8, Tryz.ntmps8
      go_wp2_with fail
      with_reducible refine HRD.out.mono ?_
      rintro e w1 ⟨rfl, rfl⟩
      go_wp2_with fail
      with_reducible refine (HSC.out _ HX.out.below).mono ?_
      rintro e w3 ⟨v, rfl, hr3, hb3⟩
      obtain ⟨p, cap, rfl, -⟩ := own_take hr3 (Nat.le_refl _)
      have HR3 := Lib.hid hr3
      have HB3 := Lib.hid hb3
      have HSY := Lib.hid (HCU.out _ (HX.out.later hb3))
      clear hr3 hb3 HSC HCU
      go_wp2_with fail
      with_reducible refine HSY.out.mono ?_
      rintro e w4 ⟨rfl, h4, k4⟩
      have H4 := Lib.hid h4
      have K4 := Lib.hid k4
      clear h4 k4 HSY
      by_cases hc : cc = 0
      · subst hc
        go_wp2_with fail
        go_ret3
        rw [HE.out]
        subst hgt
        obtain ⟨T', a1, a2, a3, a4, a5, a6, a7, a8⟩ := open_end (n := n) (w := w) (T := T) (fun i hi => .inl hi) HX.out (Kept.refl _ w) HB3.out HR3.out H4.out K4.out
        refine ⟨T', a1, a2, a3, .inr ⟨fresh n t, recs t, _, _, rfl, rfl, rfl, a4, a5, a6, a7, a8⟩⟩
      · have hcb : (cc != 0) = true := by simpa using hc
        have HNC := Lib.hid hc
        clear hc
        go_wp2_with fail
        go_ret3
        rw [HE.out]
        have hz := HB3.out.size
        refine ⟨More T w3 w4, fun i hi => hi.imp id (fun h => by omega), by unfold ends; rw [if_neg HNC.out]; exact H4.out, ?_, .inl ⟨by unfold ends; rw [if_neg HNC.out], by unfold ends; rw [if_neg HNC.out]; exact HNC.out, by unfold ends; rw [if_neg HNC.out]; rfl⟩⟩
        exact (Kept.of_below (T := T) HB3.out).trans K4.out fun i hi => .inl hi
    · have hgi : ¬ ((good F.bytes : Nat) : Int) < ((F.bytes.length : Nat) : Int) := by omega
      have HNG := Lib.hid hg
      by_cases hlo : 0 < looseD D n
      · have HE := Lib.hid (show openL D n = ends n F.bytes (syncD D n) by rw [HE0.out]; unfold mend; rw [if_neg hg, if_pos (.inr hlo)])
        have hli : (0 : Int) < ((looseD D n : Nat) : Int) := by omega
        have HCU := Lib.hid (fun (W : World) (h : DX w0 W b D T) => h.op (Sync_f h.dk n hn))
        clear h hl hg hlo
        obtain ⟨rd, hrd⟩ : ∃ rd, rd = syncD D n := ⟨_, rfl⟩
        rw [← hrd] at HE HCU
        clear hrd
        obtain ⟨D4, cc⟩ := rd
        simp only at HCU
        generalize looseD D n = ll at *
        generalize hgt : good F.bytes = gt at *
        generalize F.bytes = t at *
        go_enter Tryz.func8, Tryz.ntmps8
        go_wp2_with fail
        with_reducible refine HRD.out.mono ?_
        rintro e w1 ⟨rfl, rfl⟩
        go_wp2_with fail
        with_reducible refine (HSC.out _ HX.out.below).mono ?_
        rintro e w3 ⟨v, rfl, hr3, hb3⟩
        obtain ⟨p, cap, rfl, -⟩ := own_take hr3 (Nat.le_refl _)
        have HR3 := Lib.hid hr3
        have HB3 := Lib.hid hb3
        clear hr3 hb3 HSC
        go_wp2_with fail
        with_reducible refine (HLD.out _ (HX.out.later HB3.out)).mono ?_
        rintro e w3b ⟨rfl, m, rfl⟩
        have HB3b := Lib.hid (HB3.out.drewN m)
        have HR3b := Lib.hid (own_drewN HR3.out m)
        have HSY := Lib.hid (HCU.out _ (HX.out.later HB3b.out))
        clear HB3 HR3 HCU HLD
        generalize w3.drewN m = w3b at *
        go_wp2_with fail
        with_reducible refine HSY.out.mono ?_
        rintro e w4 ⟨rfl, h4, k4⟩
        have H4 := Lib.hid h4
        have K4 := Lib.hid k4
        clear h4 k4 HSY
        by_cases hc : cc = 0
        · subst hc
          go_wp2_with fail
          go_ret3
          rw [HE.out]
          subst hgt
          obtain ⟨T', a1, a2, a3, a4, a5, a6, a7, a8⟩ := open_end (n := n) (w := w) (T := T) (fun i hi => .inl hi) HX.out (Kept.refl _ w) HB3b.out HR3b.out H4.out K4.out
          refine ⟨T', a1, a2, a3, .inr ⟨fresh n t, recs t, _, _, rfl, rfl, rfl, a4, a5, a6, a7, a8⟩⟩
        · have hcb : (cc != 0) = true := by simpa using hc
          have HNC := Lib.hid hc
          clear hc
          go_wp2_with fail
          go_ret3
          rw [HE.out]
          have hz := HB3b.out.size
          refine ⟨More T w3b w4, fun i hi => hi.imp id (fun h => by omega), by unfold ends; rw [if_neg HNC.out]; exact H4.out, ?_, .inl ⟨by unfold ends; rw [if_neg HNC.out], by unfold ends; rw [if_neg HNC.out]; exact HNC.out, by unfold ends; rw [if_neg HNC.out]; rfl⟩⟩
          exact (Kept.of_below (T := T) HB3b.out).trans K4.out fun i hi => .inl hi
      · have HE := Lib.hid (show openL D n = ends n F.bytes (D, 0) by rw [HE0.out]; unfold mend; rw [if_neg hg, if_neg (by rintro (h | h); cases h; exact hlo h)])
        have hli : ¬ (0 : Int) < ((looseD D n : Nat) : Int) := by omega
        clear h hl hg hlo
        generalize looseD D n = ll at *
        generalize hgt : good F.bytes = gt at *
        generalize F.bytes = t at *
        go_enter Tryz.func8, Tryz.ntmps8
        go_wp2_with fail
        with_reducible refine HRD.out.mono ?_
        rintro e w1 ⟨rfl, rfl⟩
        go_wp2_with fail
        with_reducible refine (HSC.out _ HX.out.below).mono ?_
        rintro e w3 ⟨v, rfl, hr3, hb3⟩
        obtain ⟨p, cap, rfl, -⟩ := own_take hr3 (Nat.le_refl _)
        have HR3 := Lib.hid hr3
        have HB3 := Lib.hid hb3
        clear hr3 hb3 HSC
        go_wp2_with fail
        with_reducible refine (HLD.out _ (HX.out.later HB3.out)).mono ?_
        rintro e w3b ⟨rfl, m, rfl⟩
        have HB3b := Lib.hid (HB3.out.drewN m)
        have HR3b := Lib.hid (own_drewN HR3.out m)
        have H4 := Lib.hid (HX.out.later HB3b.out)
        clear HB3 HR3 HLD
        generalize w3.drewN m = w3b at *
        go_wp2_with fail
        go_ret3
        rw [HE.out]
        subst hgt
        obtain ⟨T', a1, a2, a3, a4, a5, a6, a7, a8⟩ := open_end (n := n) (w := w) (T := T) (fun i hi => .inl hi) HX.out (Kept.refl _ w) HB3b.out HR3b.out (w3 := w3b) (by rw [more_self]; exact H4.out) (Kept.refl _ _)
        refine ⟨T', a1, a2, a3, .inr ⟨fresh n t, recs t, _, _, rfl, rfl, rfl, a4, a5, a6, a7, a8⟩⟩
end Go.Proofs.YtpiaplgbpjgjiaaGreatDoor.Lg
