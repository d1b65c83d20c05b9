/-
  A step of a script (layer 8) on the document's disk: the walks of Told (layer 7) and told. Conditions: the step's texts and lists lie in memory.
-/
import Derived.Test.YtpiaplgbpjgjiaaGreatDoorZLpMath
import Derived.Test.YtpiaplgbpjgjiaaGreatDoorZLpRefS
import Derived.Test.YtpiaplgbpjgjiaaGreatDoorZLpRefK4
open Go Go.RowKit
namespace Go.Proofs.YtpiaplgbpjgjiaaGreatDoor.Lp
open Base Mp Dk Frame Lg

/-- What the document's disk is behind a call. -/
def TPost (w : World) (rb : Nat) (R : Nat → Prop) (D : DiskD) (w' : World) : Prop := (∃ g cap o, RDAt w' rb g cap D o (More R w w')) ∧ Kept R w w'
theorem tpost {w w1 w' : World} {rb : Nat} {D : DiskD} {R : Nat → Prop} (hR : ∀ i, R i → i < w.heap.size) (hb : Below w.heap.size w w1) (h : TPost w1 rb R D w') : TPost w rb R D w' := by
  obtain ⟨⟨g, cap, o, h1⟩, k1⟩ := h
  have hk : Kept R w w' := (Kept.of_below (T := R) hb).trans k1 (fun _ h => .inl h)
  have hz := hb.size
  refine ⟨⟨g, cap, o, h1.wide (fun i hi => hi.imp id fun h => ⟨by omega, h.2⟩) fun i hi => ?_⟩, hk⟩
  rcases hi with hi | hi
  · exact Nat.lt_of_lt_of_le (hR i hi) hk.size
  · exact hi.2
theorem RPost.t {w w' : World} {rb : Nat} {R : Nat → Prop} {r : DiskD × Int} {e : Ending} (h : RPost w rb R r e w') : TPost w rb R r.1 w' := by
  obtain ⟨-, g, cap, o, h1, k1⟩ := h
  exact ⟨⟨g, cap, o, h1⟩, k1⟩
theorem CPost.t {w w' : World} {rb : Nat} {R : Nat → Prop} {D : DiskD} {e : Ending} (h : CPost w rb R D e w') : TPost w rb R D w' := by
  obtain ⟨-, g, cap, o, h1, k1⟩ := h
  exact ⟨⟨g, cap, o, h1⟩, k1⟩
structure TFit (w : World) (x : StepD) : Prop where
  s : x.s.length ≤ 1099511627776
  n : -9223372036854775808 ≤ x.n ∧ x.n ≤ 9223372036854775807
  ints : IntsAt w x.kp x.keep
theorem TFit.below {w w' : World} {x : StepD} (h : TFit w x) (hb : Below w.heap.size w w') : TFit w' x := ⟨h.s, h.n, ints_kept (T := fun _ => False) h.ints (Kept.of_below hb) (fun _ _ h => h)⟩
set_option maxRecDepth 100000 in
set_option maxHeartbeats 4000000 in
theorem RTold_f {w : World} {rb g cap : Nat} {D : DiskD} {o : Option FileD} {R : Nat → Prop} (h : RDAt w rb g cap D o R) (x : StepD) (hx : TFit w x) (hd : x.do_ = 1 ∨ x.do_ = 3 ∨ x.do_ = 5 ∨ x.do_ = 6 ∨ x.do_ = 7) :
    Calls Tryz.prog 45 #[.pointer (some ⟨rb, 0, none⟩), .agg #[.int .i64 x.do_, .string (B nA), .string (B x.s), .int .i64 x.n, .int .u8 (x.by_.toNat : Int), .slice x.kp x.keep.length x.kc]] w fun e w' => (∃ c, e = .returned (.int .i64 c)) ∧ TPost w rb R (plD D x) w' := by
  have hal : Below w.heap.size w (w.alloc (.cells #[.int .i64 x.do_, .string (B nA), .string (B x.s), .int .i64 x.n, .int .u8 (x.by_.toNat : Int), .slice x.kp x.keep.length x.kc] 41)) := (Below.refl _ _).alloc (Nat.le_refl _) _
  have hc := cells_made w #[.int .i64 x.do_, .string (B nA), .string (B x.s), .int .i64 x.n, .int .u8 (x.by_.toNat : Int), .slice x.kp x.keep.length x.kc] 41
  have a0 := (hc 0 (by simp)).1
  have a1 := (hc 1 (by simp)).1
  have a2 := (hc 2 (by simp)).1
  have a3 := (hc 3 (by simp)).1
  have a4 := (hc 4 (by simp)).1
  have a5 := (hc 5 (by simp)).1
  simp only [List.getElem!_toArray, List.getElem!_cons_zero, List.getElem!_cons_succ] at a0 a1 a2 a3 a4 a5
  have HO := Lib.hid h.old
  have HB := Lib.hid hal
  have H1 := Lib.hid (h.later hal)
  have HX := Lib.hid (hx.below hal)
  clear hc hal h hx
  obtain ⟨dd, nm, st, nn, yy, kk, kp, kc⟩ := x
  simp only at hd a0 a1 a2 a3 a4 a5 HB H1 HX ⊢
  rcases hd with rfl | rfl | rfl | rfl | rfl
  · have HC := Lib.hid (RAppend_f H1.out st HX.out.s)
    go_enter Tryz.func45, Tryz.ntmps45
    go_wp2_with fail
    with_reducible refine HC.out.mono ?_
    rintro e w2 hp
    have HP := Lib.hid (tpost HO.out HB.out hp.t)
    obtain ⟨rfl, -⟩ := hp
    clear a0 a1 a2 a3 a4 a5 HC
    go_wp2
    go_ret
    exact ⟨⟨_, rfl⟩, HP.out⟩
  · have HC := Lib.hid (RCut_f H1.out nn)
    go_enter Tryz.func45, Tryz.ntmps45
    go_wp2_with fail
    with_reducible refine HC.out.mono ?_
    rintro e w2 hp
    have HP := Lib.hid (tpost HO.out HB.out hp.t)
    obtain ⟨rfl, -⟩ := hp
    clear a0 a1 a2 a3 a4 a5 HC
    go_wp2
    go_ret
    exact ⟨⟨_, rfl⟩, HP.out⟩
  · have HC := Lib.hid (RSpoil_f H1.out nn yy)
    go_enter Tryz.func45, Tryz.ntmps45
    go_wp2_with fail
    with_reducible refine HC.out.mono ?_
    rintro e w2 hp
    have HP := Lib.hid (tpost HO.out HB.out hp.t)
    obtain ⟨rfl, -⟩ := hp
    clear a0 a1 a2 a3 a4 a5 HC
    go_wp2
    go_ret
    exact ⟨⟨_, rfl⟩, HP.out⟩
  · by_cases hn : nn < 0
    · have HE := Lib.hid (show plD D ⟨6, nm, st, nn, yy, kk, kp, kc⟩ = D by show (fuseD D nn).1 = D; unfold fuseD; rw [if_pos hn])
      have HP := Lib.hid (tpost HO.out HB.out ⟨⟨_, _, _, H1.out.grow⟩, Kept.refl R _⟩)
      go_enter Tryz.func45, Tryz.ntmps45
      go_wp2
      go_ret
      rw [HE.out]
      exact ⟨⟨_, rfl⟩, HP.out⟩
    · have HE := Lib.hid (show plD D ⟨6, nm, st, nn, yy, kk, kp, kc⟩ = { D with fused := true, calls := nn.toNat } by show (fuseD D nn).1 = _; unfold fuseD; rw [if_neg hn])
      have HZ := Lib.hid (show rdFuse { D with fused := true, calls := nn.toNat } = nn by unfold rdFuse; simp only [if_true]; omega)
      have hfi : Fine { D with fused := true, calls := nn.toNat } := ⟨H1.out.fine.few, H1.out.fine.room, H1.out.fine.fits, H1.out.fine.names, H1.out.fine.sure, H1.out.fine.apart, by have := HX.out.n.2; show nn.toNat < 9223372036854775808; simp only at this; omega⟩
      have hfu := H1.out.fuse (D' := { D with fused := true, calls := nn.toNat }) rfl rfl hfi
      rw [HZ.out] at hfu
      have hrb := H1.out.mine
      have HP := Lib.hid (tpost HO.out HB.out ⟨⟨_, _, _, hfu.grow⟩, Kept.setCell (T := R) (Kept.refl R _) (p := ⟨rb, 2, none⟩) (.inl hrb) _⟩)
      have c2 := H1.out.c2
      have f2 := H1.out.f2
      clear hfi hfu hrb
      go_enter Tryz.func45, Tryz.ntmps45
      go_wp2
      go_ret
      rw [HE.out]
      exact ⟨⟨_, rfl⟩, HP.out⟩
  · have HC := Lib.hid (RCrash_f H1.out kp kk kc HX.out.ints)
    go_enter Tryz.func45, Tryz.ntmps45
    go_wp2_with fail
    with_reducible refine HC.out.mono ?_
    rintro e w2 hp
    have HP := Lib.hid (tpost HO.out HB.out hp.t)
    obtain ⟨rfl, -⟩ := hp
    clear a0 a1 a2 a3 a4 a5 HC
    go_wp2
    go_ret
    exact ⟨⟨_, rfl⟩, HP.out⟩
set_option maxRecDepth 100000 in
set_option maxHeartbeats 4000000 in
theorem told_f {w : World} {rb g cap : Nat} {D : DiskD} {o : Option FileD} {R : Nat → Prop} (h : RDAt w rb g cap D o R) (x : StepD) (lv : Value) (hx : TFit w x) :
    Calls Tryz.prog 16 #[.pointer (some ⟨rb, 0, none⟩), .agg #[.int .i64 x.do_, .string (B x.name), .string (B x.s), .int .i64 x.n, .int .u8 (x.by_.toNat : Int), .slice x.kp x.keep.length x.kc, lv]] w fun e w' => e = .returned (.tuple #[]) ∧ TPost w rb R (plD D x) w' := by
  have H := Lib.hid h
  have HX := Lib.hid hx
  clear h hx
  obtain ⟨dd, nm, st, nn, yy, kk, kp, kc⟩ := x
  simp only
  have hal : Below w.heap.size w ((w.alloc (.cells #[.int .i64 dd, .string (B nm), .string (B st), .int .i64 nn, .int .u8 (yy.toNat : Int), .slice kp kk.length kc, lv] 43)).alloc (.cells #[.int .i64 dd, .string ⟨#[97]⟩, .string (B st), .int .i64 nn, .int .u8 (yy.toNat : Int), .slice kp kk.length kc] 41)) :=
    ((Below.refl w.heap.size w).alloc (Nat.le_refl _) _).alloc (by rw [alloc_more]; omega) _
  by_cases hin : dd = 1 ∨ dd = 3 ∨ dd = 5 ∨ dd = 6 ∨ dd = 7
  · have HC := Lib.hid (show Calls Tryz.prog 45 #[.pointer (some ⟨rb, 0, none⟩), .agg #[.int .i64 dd, .string ⟨#[97]⟩, .string (B st), .int .i64 nn, .int .u8 (yy.toNat : Int), .slice kp kk.length kc]] ((w.alloc (.cells #[.int .i64 dd, .string (B nm), .string (B st), .int .i64 nn, .int .u8 (yy.toNat : Int), .slice kp kk.length kc, lv] 43)).alloc (.cells #[.int .i64 dd, .string ⟨#[97]⟩, .string (B st), .int .i64 nn, .int .u8 (yy.toNat : Int), .slice kp kk.length kc] 41)) (fun e w' => (∃ c, e = .returned (.int .i64 c)) ∧ TPost w rb R (plD D ⟨dd, nm, st, nn, yy, kk, kp, kc⟩) w') from (RTold_f (H.out.later hal) ⟨dd, nm, st, nn, yy, kk, kp, kc⟩ (HX.out.below hal) hin).mono fun e w' h => ⟨h.1, tpost H.out.old hal h.2⟩)
    clear hal
    rcases hin with rfl | rfl | rfl | rfl | rfl
    all_goals
      go_enter Tryz.func16, Tryz.ntmps16
      go_wp2_with fail
      with_reducible refine HC.out.mono ?_
      rintro e w2 ⟨⟨c, rfl⟩, hp⟩
      have HP := Lib.hid hp
      clear hp HC
      go_wp2
      refine bodyPost_end (results_none rfl _ _ _) rfl ?_
      exact ⟨rfl, HP.out⟩
  · have h1 : (dd == 1) = false := by simp; omega
    have h3 : (dd == 3) = false := by simp; omega
    have h5 : (dd == 5) = false := by simp; omega
    have h6 : (dd == 6) = false := by simp; omega
    have h7 : (dd == 7) = false := by simp; omega
    have HE := Lib.hid (show plD D ⟨dd, nm, st, nn, yy, kk, kp, kc⟩ = D by
      unfold plD
      simp only
      rw [if_neg (by omega), if_neg (by omega), if_neg (by omega), if_neg (by omega), if_neg (by omega)])
    have HP := Lib.hid (tpost H.out.old hal ⟨⟨_, _, _, (H.out.later hal).grow⟩, Kept.refl R _⟩)
    clear hin hal
    go_enter Tryz.func16, Tryz.ntmps16
    go_wp2
    refine bodyPost_end (results_none rfl _ _ _) rfl ?_
    rw [HE.out]
    exact ⟨rfl, HP.out⟩
end Go.Proofs.YtpiaplgbpjgjiaaGreatDoor.Lp
