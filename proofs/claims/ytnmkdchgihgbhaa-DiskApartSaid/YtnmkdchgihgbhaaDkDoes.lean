/-
  Disks (layer 7): the walk of does, a step of a script. Conditions: the step's numbers are of their kinds, its texts are no longer than a string may be.
-/
import Derived.Test.YtnmkdchgihgbhaaDkSpoil
import Derived.Deep.Upon
open Go Go.RowKit
namespace Go.Proofs.Ytnmkdchgihgbhaa.Dk
open Base Mp

structure StepD where
  do_ : Int
  name : Key
  s : Key
  n : Int
  by_ : UInt8
  keep : List Int
  kp : Option Addr
  kc : Nat
def stepCs (x : StepD) : Array Value := #[.int .i64 x.do_, .string (B x.name), .string (B x.s), .int .i64 x.n, .int .u8 (x.by_.toNat : Int), .slice x.kp x.keep.length x.kc]
def stepV (x : StepD) : Value := .agg (stepCs x)
structure StepOk (x : StepD) : Prop where
  name : x.name.length ≤ maxLen
  s : x.s.length ≤ maxLen
  n : -9223372036854775808 ≤ x.n ∧ x.n ≤ 9223372036854775807
  keep : IntsIn x.keep
  few : x.keep.length ≤ 1099511627776
def doesD (D : DiskD) (x : StepD) : DiskD × Int :=
  if x.do_ = 0 then createD D x.name else if x.do_ = 1 then appendD D x.name x.s else if x.do_ = 2 then syncD D x.name else if x.do_ = 3 then cutD D x.name x.n else if x.do_ = 4 then removeD D x.name else if x.do_ = 5 then spoilD D x.name x.n x.by_ else if x.do_ = 6 then fuseD D x.n else if x.do_ = 7 then (crashD D x.keep, 0) else (D, 0)
theorem infoInt : (Try.prog.info? 3).map (fun i => (i.zero, i.size, i.bytes)) = some (some (.int .i64 0), 1, 8) := by kernel_rfl
def intV (x : Int) : Value := .int .i64 x
theorem append_ints (W : World) (p : Option Addr) (cap : Nat) (l : List Int) (h : IntsAt W p l) (hm : l.length ≤ 1099511627776) : ∃ p' cap' w', (Builtin.append_ #[33, 33] 33 #[.slice none 0 0, .slice p l.length cap]).run Try.prog W = .ok (.slice p' l.length cap') w' ∧ IntsAt w' p' l ∧ l.length ≤ cap' ∧ cap' ≤ 9223372036854775807 ∧ Below W.heap.size W w' ∧ ∀ a, p' = some a → W.heap.size ≤ a.block := by
  obtain ⟨i0, hi, hz0, hz1, hz2⟩ := info_parts infoInt
  cases hl : l with
  | nil =>
    refine ⟨none, 0, W, ?_, fun j hj => absurd hj (by simp), by simp, by decide, Below.refl _ _, fun a h => by cases h⟩
    have := run_append_nothing W 33 33 33 3 i0 Try.underlying33 hi none 0 0 (Nat.le_refl _) (.slice p 0 cap)
    cases p with
    | none => exact this (Src.ofNil W Try.underlying33 cap)
    | some a => exact this (Src.ofSlice W Try.underlying33 a 0 cap [] (by simp) (fun j u hj => by simp at hj) (by simp))
  | cons x r =>
    rw [← hl]
    have hn : 0 < l.length := by rw [hl]; simp
    obtain ⟨b0, o0, rfl, _⟩ := h 0 hn
    obtain ⟨g, cap', w', h1, h2, h3, h4, -⟩ := run_append_lies (P := Try.prog) W 33 33 W.heap.size 3 i0 _ 1 8 Try.underlying33 hi hz0 hz1 hz2 rfl (by decide)
      (.slice none 0 0) 0 [] ⟨by simp, .inl ⟨rfl, rfl⟩⟩ ⟨b0, o0, none⟩ l.length cap (l.map intV) (by simp) (fun j u hj => by
        rw [List.getElem?_map] at hj
        rcases Nat.lt_or_ge j l.length with hlj | hlj
        · rw [List.getElem?_eq_getElem hlj] at hj
          obtain ⟨b1, o1, he, hc⟩ := h j hlj
          injection he with he
          injection he with e1 e2
          subst e1 e2
          rw [show (⟨b0, o0, none⟩ : Addr).add j = ⟨b0, o0 + j, none⟩ by simp [Addr.add], hc]
          exact hj
        · rw [List.getElem?_eq_none hlj] at hj; cases hj) (by intro u hu; obtain ⟨k, _, rfl⟩ := List.mem_map.1 hu; rfl) hn (by unfold maxLen; omega) (by omega) (Nat.le_refl _) _ rfl
    rw [Nat.zero_add] at h1 h2
    rw [List.nil_append] at h2
    obtain ⟨hll, ⟨e1, _⟩ | ⟨g', cap2, cur, e1, hg, hb, hnc, hcm, hcs, ht⟩⟩ := h2
    · cases e1
    · injection e1 with e2 e3 e4
      injection e2 with e2
      injection e2 with e2
      subst e2 e4
      refine ⟨some ⟨g, 0, none⟩, cap', w', h1, fun j hj => ⟨g, 0, rfl, ?_⟩, hnc, hcm, (Below.refl _ _).grown h3 (Nat.le_refl _) (fun q hq => by cases hq), fun a ha => by injection ha with ha; rw [← ha]; exact hg⟩
      have h5 : (cur.toList.take (l.length * 1))[j]? = (l.map intV)[j]? := by rw [ht]
      rw [List.getElem?_take_of_lt (by omega), List.getElem?_map, List.getElem?_eq_getElem hj] at h5
      simp [World.cell?, hb, intV] at h5 ⊢
      exact h5
theorem DW.crash {w0 w1 w2 : World} {b : Nat} {D : DiskD} (h : DW w0 w1 b D) (hk : Below w1.heap.size w1 w2) (p : Option Addr) (keep : List Int) (cap : Nat) (hI : IntsAt w2 p keep) (hi : IntsIn keep) (hc : keep.length ≤ cap) (hm : cap ≤ 9223372036854775807) (hp : ∀ a, p = some a → w1.heap.size ≤ a.block) :
    Calls Try.prog 17 #[.pointer (some ⟨b, 0, none⟩), .slice p keep.length cap] w2 fun e w' => e = .returned (.int .i64 0) ∧ DW w0 w' b (crashD D keep) := by
  obtain ⟨hb, T, hd, hT⟩ := h
  have hd0 := hd
  obtain ⟨tag, blk, bm, hdd⟩ := hd0
  have hd2 := hd.next (Kept.of_below (T := fun i => ¬ T i) hk)
  refine (Crash_f hd2 p keep cap hI hi hc hm (fun a ha ht => by have h1 := hp a ha; have h2 := hdd.old _ ht; omega)).mono ?_
  rintro e w' ⟨he, h1, h2⟩
  have hb2 := hb.trans (hk.mono hb.size)
  refine ⟨he, hb2.trans (h2.below hT hb2.size), _, h1, fun i hi => ?_⟩
  rcases hi with hi | hi
  · exact hT i hi
  · exact Nat.le_trans hb2.size hi.1
set_option maxRecDepth 100000 in
set_option maxHeartbeats 4000000 in
theorem Does_f {w0 w : World} {b : Nat} {D : DiskD} (h : DW w0 w b D) (x : StepD) (hx : StepOk x) (hk : IntsAt w x.kp x.keep) : Calls Try.prog 14 #[.pointer (some ⟨b, 0, none⟩), stepV x] w fun e w' => e = .returned (.int .i64 (doesD D x).2) ∧ DW w0 w' b (doesD D x).1 := by
  have hal : Below w.heap.size w (w.alloc (.cells (stepCs x) 36)) := (Below.refl _ _).alloc (Nat.le_refl _) _
  have HD := Lib.hid (h.later hal)
  have hk1 : IntsAt (w.alloc (.cells (stepCs x) 36)) x.kp x.keep := ints_kept (T := fun _ => False) hk (Kept.of_below hal) (fun _ _ h => h)
  have HK := Lib.hid hk1
  have HX := Lib.hid hx
  have hc := cells_made w (stepCs x) 36
  clear h hx hk hk1 hal
  obtain ⟨dd, nm, st, nn, yy, kk, kp, kc⟩ := x
  unfold stepV
  simp only [stepCs] at hc HD HK ⊢
  have a0 := (hc 0 (by simp)).1
  have a1 := (hc 1 (by simp)).1
  have a2 := (hc 2 (by simp)).1
  have a3 := (hc 3 (by simp)).1
  have a4 := (hc 4 (by simp)).1
  have a5 := (hc 5 (by simp)).1
  simp only [List.getElem!_toArray, List.getElem!_cons_zero, List.getElem!_cons_succ] at a0 a1 a2 a3 a4 a5
  clear hc
  by_cases h0 : dd = 0
  · subst h0
    have HE := Lib.hid (show doesD D ⟨0, nm, st, nn, yy, kk, kp, kc⟩ = createD D nm by rfl)
    have HC := Lib.hid (HD.out.op fun T hd => Create_f hd nm HX.out.name)
    go_enter Try.func14, Try.ntmps14
    go_wp2_with fail
    with_reducible refine HC.out.mono ?_
    rintro e w2 ⟨rfl, h2⟩
    have H2 := Lib.hid h2
    clear h2
    go_wp2
    go_ret
    rw [HE.out]
    exact ⟨rfl, H2.out⟩
  by_cases h1 : dd = 1
  · subst h1
    have HE := Lib.hid (show doesD D ⟨1, nm, st, nn, yy, kk, kp, kc⟩ = appendD D nm st by rfl)
    clear h0
    have HC := Lib.hid (HD.out.op fun T hd => Append_f hd nm st HX.out.name HX.out.s)
    go_enter Try.func14, Try.ntmps14
    go_wp2_with fail
    with_reducible refine HC.out.mono ?_
    rintro e w2 ⟨rfl, h2⟩
    have H2 := Lib.hid h2
    clear h2
    go_wp2
    go_ret
    rw [HE.out]
    exact ⟨rfl, H2.out⟩
  by_cases h2 : dd = 2
  · subst h2
    have HE := Lib.hid (show doesD D ⟨2, nm, st, nn, yy, kk, kp, kc⟩ = syncD D nm by rfl)
    clear h0 h1
    have HC := Lib.hid (HD.out.op fun T hd => Sync_f hd nm HX.out.name)
    go_enter Try.func14, Try.ntmps14
    go_wp2_with fail
    with_reducible refine HC.out.mono ?_
    rintro e w2 ⟨rfl, h2⟩
    have H2 := Lib.hid h2
    clear h2
    go_wp2
    go_ret
    rw [HE.out]
    exact ⟨rfl, H2.out⟩
  by_cases h3 : dd = 3
  · subst h3
    have HE := Lib.hid (show doesD D ⟨3, nm, st, nn, yy, kk, kp, kc⟩ = cutD D nm nn by rfl)
    clear h0 h1 h2
    have HC := Lib.hid (HD.out.op fun T hd => Cut_f hd nm nn HX.out.name HX.out.n)
    go_enter Try.func14, Try.ntmps14
    go_wp2_with fail
    with_reducible refine HC.out.mono ?_
    rintro e w2 ⟨rfl, h2⟩
    have H2 := Lib.hid h2
    clear h2
    go_wp2
    go_ret
    rw [HE.out]
    exact ⟨rfl, H2.out⟩
  by_cases h4 : dd = 4
  · subst h4
    have HE := Lib.hid (show doesD D ⟨4, nm, st, nn, yy, kk, kp, kc⟩ = removeD D nm by rfl)
    clear h0 h1 h2 h3
    have HC := Lib.hid (HD.out.op fun T hd => Remove_f hd nm HX.out.name)
    go_enter Try.func14, Try.ntmps14
    go_wp2_with fail
    with_reducible refine HC.out.mono ?_
    rintro e w2 ⟨rfl, h2⟩
    have H2 := Lib.hid h2
    clear h2
    go_wp2
    go_ret
    rw [HE.out]
    exact ⟨rfl, H2.out⟩
  by_cases h5 : dd = 5
  · subst h5
    have HE := Lib.hid (show doesD D ⟨5, nm, st, nn, yy, kk, kp, kc⟩ = spoilD D nm nn yy by rfl)
    clear h0 h1 h2 h3 h4
    have HC := Lib.hid (HD.out.op fun T hd => Spoil_f hd nm nn yy HX.out.name HX.out.n)
    go_enter Try.func14, Try.ntmps14
    go_wp2_with fail
    with_reducible refine HC.out.mono ?_
    rintro e w2 ⟨rfl, h2⟩
    have H2 := Lib.hid h2
    clear h2
    go_wp2
    go_ret
    rw [HE.out]
    exact ⟨rfl, H2.out⟩
  by_cases h6 : dd = 6
  · subst h6
    have HE := Lib.hid (show doesD D ⟨6, nm, st, nn, yy, kk, kp, kc⟩ = fuseD D nn by rfl)
    clear h0 h1 h2 h3 h4 h5
    have HC := Lib.hid (HD.out.op fun T hd => Fuse_f hd nn HX.out.n.2)
    go_enter Try.func14, Try.ntmps14
    go_wp2_with fail
    with_reducible refine HC.out.mono ?_
    rintro e w2 ⟨rfl, h2⟩
    have H2 := Lib.hid h2
    clear h2
    go_wp2
    go_ret
    rw [HE.out]
    exact ⟨rfl, H2.out⟩
  by_cases h7 : dd = 7
  · subst h7
    have HE := Lib.hid (show doesD D ⟨7, nm, st, nn, yy, kk, kp, kc⟩ = (crashD D kk, 0) by rfl)
    clear h0 h1 h2 h3 h4 h5 h6
    obtain ⟨p2, c2, w2, hr2, hi2, hc2, hm2, hb2, hp2⟩ := append_ints _ kp kc kk HK.out HX.out.few
    have HR2 := Lib.hid hr2
    have HC := Lib.hid (HD.out.crash hb2 p2 kk c2 hi2 HX.out.keep hc2 hm2 hp2)
    clear hr2 hi2 hc2 hm2 hb2 hp2
    go_enter Try.func14, Try.ntmps14
    go_wp2_with (at_builtin; refine wpList_append_run2 rfl _ _ _ _ rfl rfl rfl HR2.out ?_)
    with_reducible refine HC.out.mono ?_
    rintro e w3 ⟨rfl, h2⟩
    have H2 := Lib.hid h2
    clear h2
    go_wp2
    go_ret
    rw [HE.out]
    exact ⟨rfl, H2.out⟩
  have q0 : (dd == 0) = false := by simpa using h0
  have q1 : (dd == 1) = false := by simpa using h1
  have q2 : (dd == 2) = false := by simpa using h2
  have q3 : (dd == 3) = false := by simpa using h3
  have q4 : (dd == 4) = false := by simpa using h4
  have q5 : (dd == 5) = false := by simpa using h5
  have q6 : (dd == 6) = false := by simpa using h6
  have q7 : (dd == 7) = false := by simpa using h7
  have HE := Lib.hid (show doesD D ⟨dd, nm, st, nn, yy, kk, kp, kc⟩ = (D, 0) by unfold doesD; simp only; rw [if_neg h0, if_neg h1, if_neg h2, if_neg h3, if_neg h4, if_neg h5, if_neg h6, if_neg h7])
  clear h0 h1 h2 h3 h4 h5 h6 h7
  go_enter Try.func14, Try.ntmps14
  go_wp2
  go_ret
  rw [HE.out]
  exact ⟨rfl, HD.out⟩
end Go.Proofs.Ytnmkdchgihgbhaa.Dk
