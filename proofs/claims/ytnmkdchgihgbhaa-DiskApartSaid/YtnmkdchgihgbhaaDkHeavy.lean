/-
  Disks (layer 7): the walk of the guard Heavy. Conditions: the steps lie in memory; texts and lists are no longer than the reach.
-/
import Derived.Test.YtnmkdchgihgbhaaDkDoes
import Derived.Deep.RegionHeld3
open Go Go.RowKit
namespace Go.Proofs.Ytnmkdchgihgbhaa.Dk
open Base Mp
attribute [local go_sem ↓] Go.wp_at_zero Go.wp_at_succ

/-- A step in memory, its first cell at offset o. -/
structure StepAt (w : World) (b o : Nat) (x : StepD) : Prop where
  c0 : w.cell? ⟨b, o, none⟩ = some (.int .i64 x.do_)
  c1 : w.cell? ⟨b, o + 1, none⟩ = some (.string (B x.name))
  c2 : w.cell? ⟨b, o + 2, none⟩ = some (.string (B x.s))
  c3 : w.cell? ⟨b, o + 3, none⟩ = some (.int .i64 x.n)
  c4 : w.cell? ⟨b, o + 4, none⟩ = some (.int .u8 (x.by_.toNat : Int))
  c5 : w.cell? ⟨b, o + 5, none⟩ = some (.slice x.kp x.keep.length x.kc)
/-- What is known of each step that comes in. -/
structure StepFit (w : World) (x : StepD) : Prop where
  name : x.name.length ≤ 140737488355328
  s : x.s.length ≤ 140737488355328
  n : -9223372036854775808 ≤ x.n ∧ x.n ≤ 9223372036854775807
  keep : IntsIn x.keep
  few : x.keep.length ≤ 140737488355328
  ints : IntsAt w x.kp x.keep
theorem StepAt.below {w w' : World} {b o : Nat} {x : StepD} (h : StepAt w b o x) (hb : Below w.heap.size w w') : StepAt w' b o x := by
  have hlt := lt_of_cell h.c0
  have key : ∀ j v, w.cell? ⟨b, j, none⟩ = some v → w'.cell? ⟨b, j, none⟩ = some v := fun j v hc => (World.cell?_of_block (a := ⟨b, j, none⟩) (hb.block b hlt)).trans hc
  exact ⟨key _ _ h.c0, key _ _ h.c1, key _ _ h.c2, key _ _ h.c3, key _ _ h.c4, key _ _ h.c5⟩
theorem StepFit.below {w w' : World} {x : StepD} (h : StepFit w x) (hb : Below w.heap.size w w') : StepFit w' x := ⟨h.name, h.s, h.n, h.keep, h.few, ints_kept (T := fun _ => False) h.ints (Kept.of_below hb) (fun _ _ h => h)⟩
def StepsArg (w : World) (p : Option Addr) (l : List StepD) : Prop := ∀ j (h : j < l.length), ∃ b o, p = some ⟨b, o, none⟩ ∧ StepAt w b (o + j * 6) l[j] ∧ StepFit w l[j]
theorem StepsArg.below {w w' : World} {p : Option Addr} {l : List StepD} (h : StepsArg w p l) (hb : Below w.heap.size w w') : StepsArg w' p l := fun j hj => by
  obtain ⟨b, o, h1, h2, h3⟩ := h j hj
  exact ⟨b, o, h1, h2.below hb, h3.below hb⟩
def heavyN (l : List StepD) : Nat := (l.map fun x => x.name.length + x.s.length + x.keep.length).sum
def heavyB (l : List StepD) : Bool := decide (200 < l.length) || decide (16384 < heavyN (l.take 500))
theorem heavyN_succ (l : List StepD) (i : Nat) (h : i < l.length) : heavyN (l.take (i + 1)) = heavyN (l.take i) + l[i].name.length + l[i].s.length + l[i].keep.length := by
  unfold heavyN
  rw [List.take_succ_eq_append_getElem h, List.map_append, List.sum_append]
  simp
  omega
set_option maxHeartbeats 4000000 in
set_option maxRecDepth 100000 in
theorem Heavy_f (p : Option Addr) (l : List StepD) (cap : Nat) (w : World) (hl : l.length ≤ maxLen) (h : StepsArg w p l) :
    Calls Try.prog 13 #[.slice p l.length cap] w fun e w' => e = .returned (.bool (heavyB l)) ∧ Below w.heap.size w w' := by
  unfold maxLen at hl
  have HA := Lib.hid h
  clear h
  go_enter Try.func13, Try.ntmps13
  go_wp2_with fail
  go_loopw [3, 4] (fun v u wr => ∃ i : Nat, v = .int .i64 (heavyN (l.take i) : Nat) ∧ u = .int .i64 (i : Int) ∧ i ≤ l.length ∧ i ≤ 500 ∧ heavyN (l.take i) ≤ i * 422212465065984 ∧ Below w.heap.size w wr) (fun _ u _ => l.length - (intOf u).toNat)
  case atStart => exact ⟨0, rfl, rfl, Nat.zero_le _, by omega, by simp [heavyN], Below.refl _ _⟩
  case round =>
    obtain ⟨i, rfl, rfl, hi, hi5, hsum, hb⟩ := hrel
    have HB := Lib.hid hb
    clear hb
    by_cases hin : i < l.length ∧ i < 500
    · obtain ⟨b, o, rfl, hs, hf⟩ := HA.out.below HB.out i hin.1
      have c1 := hs.c1
      have c2 := hs.c2
      have c5 := hs.c5
      have hn1 := hf.name
      have hn2 := hf.s
      have hn3 := hf.few
      have HS := Lib.hid (heavyN_succ l i hin.1)
      have HI := Lib.hid hin
      have t1 : (i : Int) < (l.length : Int) := by omega
      have t2 : (i : Int) < 500 := by omega
      have t3 : 0 ≤ (i : Int) := by omega
      clear hs hf
      generalize l[i] = x at *
      clear hin
      generalize hhn : heavyN (l.take i) = hn at *
      have HH := Lib.hid hhn
      clear hhn
      obtain ⟨dd, nm, st, nn, yy, kk, kp, kc⟩ := x
      simp only at c1 c2 c5 hn1 hn2 hn3 HS
      have s1 : hn ≤ 211106232532992000 := Nat.le_trans hsum (by omega)
      have HSUM := Lib.hid hsum
      clear hsum
      go_wp2_with fail
      go_quiet (fail)
      have HB2 := Lib.hid (HB.out.drewN nq)
      clear c1 c2 c5
      generalize wr.drewN nq = wd at *
      go_wp2_with fail
      go_roundw
      case rel => exact ⟨i + 1, by rw [HS.out]; go_num, by go_num, HI.out.1, HI.out.2, by rw [HS.out]; have := HSUM.out; omega, HB2.out⟩
      case measure => have := HI.out; simp [intOf]; omega
    · have HE := Lib.hid (show heavyN (l.take 500) = heavyN (l.take i) ∨ 200 < l.length by
        rcases Nat.lt_or_ge i 500 with h5 | h5
        · have hil : i = l.length := by
            rcases Nat.lt_or_ge i l.length with h | h
            · exact absurd ⟨h, h5⟩ hin
            · omega
          left
          rw [List.take_of_length_le (by omega), List.take_of_length_le (by omega)]
        · right; omega)
      have s1 : heavyN (l.take i) ≤ 211106232532992000 := Nat.le_trans hsum (by omega)
      obtain ⟨hn, hhn⟩ : ∃ hn, hn = heavyN (l.take i) := ⟨_, rfl⟩
      rw [← hhn] at HE s1 ⊢
      clear hhn hsum
      have HV := Lib.hid (show heavyB l = (decide (200 < l.length) || decide (16384 < hn)) by
        unfold heavyB
        rcases HE.out with h | h
        · rw [h]
        · simp [h])
      have hguard : ¬ (i : Int) < (l.length : Int) ∨ ((i : Int) < (l.length : Int) ∧ ¬ (i : Int) < 500) := by omega
      clear hin HE
      have HL := Lib.hid hl
      generalize l.length = m at *
      rcases hguard with hg1 | ⟨hg1, hg2⟩
      · by_cases h200 : 200 < m
        · have u1 : (200 : Int) < (m : Int) := by omega
          have HV2 := Lib.hid (show heavyB l = true by rw [HV.out]; simp [h200])
          go_wp2
          go_ret
          rw [HV2.out]
          exact ⟨rfl, HB.out⟩
        · have u1 : ¬ (200 : Int) < (m : Int) := by omega
          by_cases hbig : 16384 < hn
          · have u2 : (16384 : Int) < (hn : Int) := by omega
            have HV2 := Lib.hid (show heavyB l = true by rw [HV.out]; simp [hbig])
            go_wp2
            go_ret
            rw [HV2.out]
            exact ⟨rfl, HB.out⟩
          · have u2 : ¬ (16384 : Int) < (hn : Int) := by omega
            have HV2 := Lib.hid (show heavyB l = false by rw [HV.out]; simp [h200, hbig])
            go_wp2
            go_ret
            rw [HV2.out]
            exact ⟨rfl, HB.out⟩
      · by_cases h200 : 200 < m
        · have u1 : (200 : Int) < (m : Int) := by omega
          have HV2 := Lib.hid (show heavyB l = true by rw [HV.out]; simp [h200])
          go_wp2
          go_ret
          rw [HV2.out]
          exact ⟨rfl, HB.out⟩
        · have u1 : ¬ (200 : Int) < (m : Int) := by omega
          by_cases hbig : 16384 < hn
          · have u2 : (16384 : Int) < (hn : Int) := by omega
            have HV2 := Lib.hid (show heavyB l = true by rw [HV.out]; simp [hbig])
            go_wp2
            go_ret
            rw [HV2.out]
            exact ⟨rfl, HB.out⟩
          · have u2 : ¬ (16384 : Int) < (hn : Int) := by omega
            have HV2 := Lib.hid (show heavyB l = false by rw [HV.out]; simp [h200, hbig])
            go_wp2
            go_ret
            rw [HV2.out]
            exact ⟨rfl, HB.out⟩
end Go.Proofs.Ytnmkdchgihgbhaa.Dk
