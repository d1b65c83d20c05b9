/-
  Disks (layer 7): the walk of does once more, with what it leaves. Conditions: the step's numbers are of their kinds, its texts are no longer than a string may be.
-/
import Derived.Test.YtnmkdchgihgbhaaDkRow
open Go Go.RowKit
namespace Go.Proofs.Ytnmkdchgihgbhaa.Dk
open Base Mp

set_option maxRecDepth 100000 in
set_option maxHeartbeats 4000000 in
theorem Does_k {w0 w1 w : World} {b : Nat} {D : DiskD} (h : DW w0 w1 b D) (hbk : Below w1.heap.size w1 w) (x : StepD) (hx : StepOk x) (hk : IntsAt w x.kp x.keep) : Calls Try.prog 14 #[.pointer (some ⟨b, 0, none⟩), stepV x] w fun e w' => e = .returned (.int .i64 (doesD D x).2) ∧ DW w0 w' b (doesD D x).1 ∧ Kept (fun i => w0.heap.size ≤ i ∧ i < w1.heap.size) w w' := by
  have hal : Below w.heap.size w (w.alloc (.cells (stepCs x) 36)) := (Below.refl _ _).alloc (Nat.le_refl _) _
  have HD := Lib.hid h
  have HBK := Lib.hid (hbk.trans (hal.mono hbk.size))
  have HAL := Lib.hid hal
  clear hbk
  have hk1 : IntsAt (w.alloc (.cells (stepCs x) 36)) x.kp x.keep := ints_kept (T := fun _ => False) hk (Kept.of_below hal) (fun _ _ h => h)
  have HK := Lib.hid hk1
  have HX := Lib.hid hx
  have hc := cells_made w (stepCs x) 36
  clear h hx hk hk1 hal
  obtain ⟨dd, nm, st, nn, yy, kk, kp, kc⟩ := x
  unfold stepV
  simp only [stepCs] at hc HBK HAL HK ⊢
  have a0 := (hc 0 (by simp)).1
  have a1 := (hc 1 (by simp)).1
  have a2 := (hc 2 (by simp)).1
  have a3 := (hc 3 (by simp)).1
  have a4 := (hc 4 (by simp)).1
  have a5 := (hc 5 (by simp)).1
  simp only [List.getElem!_toArray, List.getElem!_cons_zero, List.getElem!_cons_succ] at a0 a1 a2 a3 a4 a5
  clear hc
  by_cases h0 : dd = 0
  · subst h0
    have HE := Lib.hid (show doesD D ⟨0, nm, st, nn, yy, kk, kp, kc⟩ = createD D nm by rfl)
    have HC := Lib.hid (HD.out.op2 HBK.out fun T _ hd => Create_f hd nm HX.out.name)
    go_enter Try.func14, Try.ntmps14
    go_wp2_with fail
    with_reducible refine HC.out.mono ?_
    rintro e w2 ⟨rfl, h2⟩
    have H2 := Lib.hid h2
    clear h2
    go_wp2
    go_ret
    rw [HE.out]
    exact ⟨rfl, H2.out.1, (Kept.of_below HAL.out).trans H2.out.2 (fun _ h => .inl h)⟩
  by_cases h1 : dd = 1
  · subst h1
    have HE := Lib.hid (show doesD D ⟨1, nm, st, nn, yy, kk, kp, kc⟩ = appendD D nm st by rfl)
    clear h0
    have HC := Lib.hid (HD.out.op2 HBK.out fun T _ hd => Append_f hd nm st HX.out.name HX.out.s)
    go_enter Try.func14, Try.ntmps14
    go_wp2_with fail
    with_reducible refine HC.out.mono ?_
    rintro e w2 ⟨rfl, h2⟩
    have H2 := Lib.hid h2
    clear h2
    go_wp2
    go_ret
    rw [HE.out]
    exact ⟨rfl, H2.out.1, (Kept.of_below HAL.out).trans H2.out.2 (fun _ h => .inl h)⟩
  by_cases h2 : dd = 2
  · subst h2
    have HE := Lib.hid (show doesD D ⟨2, nm, st, nn, yy, kk, kp, kc⟩ = syncD D nm by rfl)
    clear h0 h1
    have HC := Lib.hid (HD.out.op2 HBK.out fun T _ hd => Sync_f hd nm HX.out.name)
    go_enter Try.func14, Try.ntmps14
    go_wp2_with fail
    with_reducible refine HC.out.mono ?_
    rintro e w2 ⟨rfl, h2⟩
    have H2 := Lib.hid h2
    clear h2
    go_wp2
    go_ret
    rw [HE.out]
    exact ⟨rfl, H2.out.1, (Kept.of_below HAL.out).trans H2.out.2 (fun _ h => .inl h)⟩
  by_cases h3 : dd = 3
  · subst h3
    have HE := Lib.hid (show doesD D ⟨3, nm, st, nn, yy, kk, kp, kc⟩ = cutD D nm nn by rfl)
    clear h0 h1 h2
    have HC := Lib.hid (HD.out.op2 HBK.out fun T _ hd => Cut_f hd nm nn HX.out.name HX.out.n)
    go_enter Try.func14, Try.ntmps14
    go_wp2_with fail
    with_reducible refine HC.out.mono ?_
    rintro e w2 ⟨rfl, h2⟩
    have H2 := Lib.hid h2
    clear h2
    go_wp2
    go_ret
    rw [HE.out]
    exact ⟨rfl, H2.out.1, (Kept.of_below HAL.out).trans H2.out.2 (fun _ h => .inl h)⟩
  by_cases h4 : dd = 4
  · subst h4
    have HE := Lib.hid (show doesD D ⟨4, nm, st, nn, yy, kk, kp, kc⟩ = removeD D nm by rfl)
    clear h0 h1 h2 h3
    have HC := Lib.hid (HD.out.op2 HBK.out fun T _ hd => Remove_f hd nm HX.out.name)
    go_enter Try.func14, Try.ntmps14
    go_wp2_with fail
    with_reducible refine HC.out.mono ?_
    rintro e w2 ⟨rfl, h2⟩
    have H2 := Lib.hid h2
    clear h2
    go_wp2
    go_ret
    rw [HE.out]
    exact ⟨rfl, H2.out.1, (Kept.of_below HAL.out).trans H2.out.2 (fun _ h => .inl h)⟩
  by_cases h5 : dd = 5
  · subst h5
    have HE := Lib.hid (show doesD D ⟨5, nm, st, nn, yy, kk, kp, kc⟩ = spoilD D nm nn yy by rfl)
    clear h0 h1 h2 h3 h4
    have HC := Lib.hid (HD.out.op2 HBK.out fun T _ hd => Spoil_f hd nm nn yy HX.out.name HX.out.n)
    go_enter Try.func14, Try.ntmps14
    go_wp2_with fail
    with_reducible refine HC.out.mono ?_
    rintro e w2 ⟨rfl, h2⟩
    have H2 := Lib.hid h2
    clear h2
    go_wp2
    go_ret
    rw [HE.out]
    exact ⟨rfl, H2.out.1, (Kept.of_below HAL.out).trans H2.out.2 (fun _ h => .inl h)⟩
  by_cases h6 : dd = 6
  · subst h6
    have HE := Lib.hid (show doesD D ⟨6, nm, st, nn, yy, kk, kp, kc⟩ = fuseD D nn by rfl)
    clear h0 h1 h2 h3 h4 h5
    have HC := Lib.hid (HD.out.op2 HBK.out fun T _ hd => Fuse_f hd nn HX.out.n.2)
    go_enter Try.func14, Try.ntmps14
    go_wp2_with fail
    with_reducible refine HC.out.mono ?_
    rintro e w2 ⟨rfl, h2⟩
    have H2 := Lib.hid h2
    clear h2
    go_wp2
    go_ret
    rw [HE.out]
    exact ⟨rfl, H2.out.1, (Kept.of_below HAL.out).trans H2.out.2 (fun _ h => .inl h)⟩
  by_cases h7 : dd = 7
  · subst h7
    have HE := Lib.hid (show doesD D ⟨7, nm, st, nn, yy, kk, kp, kc⟩ = (crashD D kk, 0) by rfl)
    clear h0 h1 h2 h3 h4 h5 h6
    obtain ⟨p2, c2, w2, hr2, hi2, hc2, hm2, hb2, hp2⟩ := append_ints _ kp kc kk HK.out HX.out.few
    have HR2 := Lib.hid hr2
    have HC := Lib.hid (HD.out.crash2 (HBK.out.trans (hb2.mono HBK.out.size)) p2 kk c2 hi2 HX.out.keep hc2 hm2 (fun a ha => Nat.le_trans HBK.out.size (hp2 a ha)))
    have HB2 := Lib.hid hb2
    clear hr2 hi2 hc2 hm2 hb2 hp2
    go_enter Try.func14, Try.ntmps14
    go_wp2_with (at_builtin; refine wpList_append_run2 rfl _ _ _ _ rfl rfl rfl HR2.out ?_)
    with_reducible refine HC.out.mono ?_
    rintro e w3 ⟨rfl, h2⟩
    have H2 := Lib.hid h2
    clear h2
    go_wp2
    go_ret
    rw [HE.out]
    exact ⟨rfl, H2.out.1, (Kept.of_below (HAL.out.trans (HB2.out.mono HAL.out.size))).trans H2.out.2 (fun _ h => .inl h)⟩
  have q0 : (dd == 0) = false := by simpa using h0
  have q1 : (dd == 1) = false := by simpa using h1
  have q2 : (dd == 2) = false := by simpa using h2
  have q3 : (dd == 3) = false := by simpa using h3
  have q4 : (dd == 4) = false := by simpa using h4
  have q5 : (dd == 5) = false := by simpa using h5
  have q6 : (dd == 6) = false := by simpa using h6
  have q7 : (dd == 7) = false := by simpa using h7
  have HE := Lib.hid (show doesD D ⟨dd, nm, st, nn, yy, kk, kp, kc⟩ = (D, 0) by unfold doesD; simp only; rw [if_neg h0, if_neg h1, if_neg h2, if_neg h3, if_neg h4, if_neg h5, if_neg h6, if_neg h7])
  clear h0 h1 h2 h3 h4 h5 h6 h7
  go_enter Try.func14, Try.ntmps14
  go_wp2
  go_ret
  rw [HE.out]
  exact ⟨rfl, HD.out.later HBK.out, Kept.of_below HAL.out⟩
end Go.Proofs.Ytnmkdchgihgbhaa.Dk
