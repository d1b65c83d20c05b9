/-
  A step of a script (layer 8) on the program's disk: the walk of disked. Conditions: the step's texts and lists lie in memory; the disk is the call's own.
-/
import Derived.Test.YtpiaplgbpjgjiaaGreatDoorZLpPair
import Derived.Test.YtpiaplgbpjgjiaaGreatDoorZLpTold
import Derived.Test.YtpiaplgbpjgjiaaGreatDoorZDkB
open Go Go.RowKit
namespace Go.Proofs.YtpiaplgbpjgjiaaGreatDoor.Lp
open Base Mp Dk Frame Lg

/-- The program's side behind a call. -/
def PP (w0 w : World) (b : Nat) (D : DiskD) (lv : Value) (m : Option LogD) (S : Nat → Prop) (w' : World) : Prop := PSide w0 w' b D lv m (More S w w') ∧ Kept S w w'
section
variable {w0 w w1 w' : World} {b : Nat} {D : DiskD} {lv : Value} {m : Option LogD} {S : Nat → Prop}
theorem PSide.later (h : PSide w0 w b D lv m S) (hb : Below w.heap.size w w1) : PSide w0 w1 b D lv m S := h.next (Kept.of_below (T := fun _ => False) hb) (fun _ h => h.elim)
theorem PSide.lo (h : PSide w0 w b D lv m S) : w0.heap.size ≤ w.heap.size := h.below.size
theorem ppost {D' : DiskD} {lv' : Value} {m' : Option LogD} (h0 : PSide w0 w b D lv m S) (hb : Below w.heap.size w w1) (h : PP w0 w1 b D' lv' m' S w') : PP w0 w b D' lv' m' S w' := by
  have hk : Kept S w w' := (Kept.of_below (T := S) hb).trans h.2 (fun _ h => .inl h)
  have hz := hb.size
  have hlo := h0.lo
  refine ⟨h.1.wide (fun i hi => hi.imp id fun h => ⟨by omega, h.2⟩) fun i hi => ?_, hk⟩
  rcases hi with hi | hi
  · have h1 := h0.old i hi
    exact ⟨h1.1, Nat.lt_of_lt_of_le h1.2 hk.size⟩
  · exact ⟨by omega, hi.2⟩
theorem PSide.same (h : PSide w0 w b D lv m S) (hb : Below w.heap.size w w') : PP w0 w b D lv m S w' := by
  have hz := hb.size
  have hlo := h.lo
  refine ⟨(h.later hb).wide (fun i hi => .inl hi) fun i hi => ?_, Kept.of_below hb⟩
  rcases hi with hi | hi
  · have h1 := h.old i hi
    exact ⟨h1.1, by omega⟩
  · exact ⟨by omega, hi.2⟩
theorem PSide.call {P : Program} {f : FuncId} {args : Array Value} (h : PSide w0 w b D lv m S) (hb : Below w.heap.size w w1) {r : DiskD × Int} (hc : ∀ T, (∀ i, T i → S i) → DX w0 w1 b D T → Calls P f args w1 (OpPost w1 b T r)) :
    Calls P f args w1 fun e w' => e = .returned (.int .i64 r.2) ∧ PP w0 w b r.1 lv m S w' := by
  have h1 := h.later hb
  obtain ⟨⟨T, k1, k2, k3, k4⟩, k5⟩ := h1
  refine (k2.op (hc T k1 k2)).mono ?_
  rintro e w' ⟨he, j1, j2⟩
  refine ⟨he, ppost h hb ⟨⟨⟨More T w1 w', fun i hi => hi.imp (k1 i) id, j1, k3, fun L hL => ?_⟩, fun i hi => ?_⟩, j2.mono k1⟩⟩
  · obtain ⟨lb, e, hc, hs, hn⟩ := k4 L hL
    refine ⟨lb, e, hc.kept j2 (k5 _ hs).2 hn, .inl hs, fun ht => ?_⟩
    rcases ht with ht | ht
    · exact hn ht
    · have := (k5 _ hs).2; omega
  · have h6 := j2.size
    rcases hi with hi | hi
    · have := k5 i hi; omega
    · have := k2.below.size; omega
end
set_option maxRecDepth 100000 in
set_option maxHeartbeats 4000000 in
theorem disked_f {w0 w : World} {b : Nat} {D : DiskD} {lv : Value} {m : Option LogD} {S : Nat → Prop} (h : PSide w0 w b D lv m S) (x : StepD) (sv : Value) (hx : TFit w x) (hki : IntsIn x.keep) (hfew : x.keep.length ≤ 1099511627776) :
    Calls Tryz.prog 15 #[.pointer (some ⟨b, 0, none⟩), .agg #[.int .i64 x.do_, .string (B x.name), .string (B x.s), .int .i64 x.n, .int .u8 (x.by_.toNat : Int), .slice x.kp x.keep.length x.kc, sv]] w fun e w' => e = .returned (.tuple #[]) ∧ PP w0 w b (plD D x) lv m S w' := by
  have hal : Below w.heap.size w (w.alloc (.cells #[.int .i64 x.do_, .string (B x.name), .string (B x.s), .int .i64 x.n, .int .u8 (x.by_.toNat : Int), .slice x.kp x.keep.length x.kc, sv] 43)) := (Below.refl _ _).alloc (Nat.le_refl _) _
  have H := Lib.hid h
  have HX := Lib.hid (hx.below hal)
  have HKI := Lib.hid hki
  have HFW := Lib.hid hfew
  clear h hx hki hfew
  have hn := (show nA.length ≤ maxLen by decide)
  obtain ⟨dd, nm, st, nn, yy, kk, kp, kc⟩ := x
  simp only at hal HX HKI HFW ⊢
  have HB := Lib.hid hal
  clear hal
  by_cases h1 : dd = 1
  · subst h1
    have HC := Lib.hid (show Calls Tryz.prog 38 #[.pointer (some ⟨b, 0, none⟩), .string ⟨#[97]⟩, .string (B st)] _ _ from H.out.call HB.out fun T _ hT => Append_f hT.dk nA st hn (Nat.le_trans HX.out.s (by decide)))
    go_enter Tryz.func15, Tryz.ntmps15
    go_wp2_with fail
    with_reducible refine HC.out.mono ?_
    rintro e w2 ⟨rfl, hp⟩
    have HP := Lib.hid hp
    clear hp HC
    go_wp2
    refine bodyPost_end (results_none rfl _ _ _) rfl ?_
    exact ⟨rfl, HP.out⟩
  by_cases h3 : dd = 3
  · subst h3
    clear h1
    have HC := Lib.hid (show Calls Tryz.prog 26 #[.pointer (some ⟨b, 0, none⟩), .string ⟨#[97]⟩, .int .i64 nn] _ _ from H.out.call HB.out fun T _ hT => Cut_f hT.dk nA nn hn HX.out.n)
    go_enter Tryz.func15, Tryz.ntmps15
    go_wp2_with fail
    with_reducible refine HC.out.mono ?_
    rintro e w2 ⟨rfl, hp⟩
    have HP := Lib.hid hp
    clear hp HC
    go_wp2
    refine bodyPost_end (results_none rfl _ _ _) rfl ?_
    exact ⟨rfl, HP.out⟩
  by_cases h5 : dd = 5
  · subst h5
    clear h1 h3
    have HC := Lib.hid (show Calls Tryz.prog 43 #[.pointer (some ⟨b, 0, none⟩), .string ⟨#[97]⟩, .int .i64 nn, .int .u8 (yy.toNat : Int)] _ _ from H.out.call HB.out fun T _ hT => Spoil_f hT.dk nA nn yy hn HX.out.n)
    go_enter Tryz.func15, Tryz.ntmps15
    go_wp2_with fail
    with_reducible refine HC.out.mono ?_
    rintro e w2 ⟨rfl, hp⟩
    have HP := Lib.hid hp
    clear hp HC
    go_wp2
    refine bodyPost_end (results_none rfl _ _ _) rfl ?_
    exact ⟨rfl, HP.out⟩
  by_cases h6 : dd = 6
  · subst h6
    clear h1 h3 h5
    have HC := Lib.hid (show Calls Tryz.prog 44 #[.pointer (some ⟨b, 0, none⟩), .int .i64 nn] _ _ from H.out.call HB.out fun T _ hT => Fuse_f hT.dk nn HX.out.n.2)
    go_enter Tryz.func15, Tryz.ntmps15
    go_wp2_with fail
    with_reducible refine HC.out.mono ?_
    rintro e w2 ⟨rfl, hp⟩
    have HP := Lib.hid hp
    clear hp HC
    go_wp2
    refine bodyPost_end (results_none rfl _ _ _) rfl ?_
    exact ⟨rfl, HP.out⟩
  by_cases h7 : dd = 7
  · subst h7
    clear h1 h3 h5 h6
    obtain ⟨p2, c2, w2, hr2, hi2, hc2, hm2, hb2, hp2⟩ := append_ints _ kp kc kk HX.out.ints HFW.out
    have HR2 := Lib.hid hr2
    have HC := Lib.hid (show Calls Tryz.prog 22 #[.pointer (some ⟨b, 0, none⟩), .slice p2 kk.length c2] w2 fun e w' => e = .returned (.int .i64 0) ∧ PP w0 w b (crashD D kk) lv m S w' from H.out.call (r := (crashD D kk, 0)) (HB.out.trans (hb2.mono HB.out.size)) fun T hTS hT => Crash_f hT.dk p2 kk c2 hi2 HKI.out hc2 hm2 (fun a ha ht => by
      have h8 := hp2 a ha
      have h9 := (H.out.old _ (hTS _ ht)).2
      have h10 := HB.out.size
      omega))
    clear hr2 hi2 hc2 hm2 hb2 hp2
    go_enter Tryz.func15, Tryz.ntmps15
    go_wp2_with (at_builtin; refine wpList_append_run rfl _ _ _ rfl rfl rfl HR2.out ?_)
    with_reducible refine HC.out.mono ?_
    rintro e w3 ⟨rfl, hp⟩
    have HP := Lib.hid hp
    clear hp HC
    go_wp2
    refine bodyPost_end (results_none rfl _ _ _) rfl ?_
    exact ⟨rfl, HP.out⟩
  have q1 : (dd == 1) = false := by simpa using h1
  have q3 : (dd == 3) = false := by simpa using h3
  have q5 : (dd == 5) = false := by simpa using h5
  have q6 : (dd == 6) = false := by simpa using h6
  have q7 : (dd == 7) = false := by simpa using h7
  have HE := Lib.hid (show plD D ⟨dd, nm, st, nn, yy, kk, kp, kc⟩ = D by
    unfold plD
    simp only
    rw [if_neg h1, if_neg h3, if_neg h5, if_neg h6, if_neg h7])
  have HP := Lib.hid (H.out.same HB.out)
  clear h1 h3 h5 h6 h7
  go_enter Tryz.func15, Tryz.ntmps15
  go_wp2
  refine bodyPost_end (results_none rfl _ _ _) rfl ?_
  rw [HE.out]
  exact ⟨rfl, HP.out⟩
end Go.Proofs.YtpiaplgbpjgjiaaGreatDoor.Lp
