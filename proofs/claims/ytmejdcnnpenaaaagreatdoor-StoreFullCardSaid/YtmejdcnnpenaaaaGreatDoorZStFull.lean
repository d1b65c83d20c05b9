/-
  Stores (layer 9): the statement StoreFull, walked. Conditions: the arguments lie in memory and are within the reach; the tables are laid; the room is of its kind.
-/
import Derived.Test.YtmejdcnnpenaaaaGreatDoorZStRow
import Derived.Test.YtmejdcnnpenaaaaGreatDoorZDkCopy
open Go Go.RowKit
namespace Go.Proofs.YtmejdcnnpenaaaaGreatDoor.St
open Base Mp Dk Frame Lg

theorem Well.fit {D : DiskD} {S : StoreD} {t : Key} {l : List Key} {s c r : Nat} (h : Well D S t l s c r) : Well D S t l s r r := ⟨h.good, h.fine, h.fused, by have := h.fine.fits; have := h.room; omega, h.room⟩
theorem full_put {D : DiskD} {S : StoreD} {t : Key} {l : List Key} {s r : Nat} (h : Well D S t l s r r) (x : Key) (hx : x.length ≤ 1048576) :
    (∃ D' S', putS D S [x] = (D', S', 0) ∧ Well D' S' t (l ++ [x]) s r r ∧ S'.number = S.number) ∨ putS D S [x] = (D, S, 6) := by
  rcases good_put h.good h.fine x hx with ⟨D', S', h1, h2, h3, h4⟩ | ⟨_, e⟩ | ⟨e, _⟩
  · exact .inl ⟨D', S', h1, (h.near h2 h4).fit, h3⟩
  · exact .inr e
  · exact (no_fuse h.fused e).elim
theorem full_save {D : DiskD} {S : StoreD} {t : Key} {l : List Key} {s r : Nat} (h : Well D S t l s r r) (hn : S.number + 1 ≤ 1000000) (x : Key) (hx : x.length ≤ 1048576) :
    (∃ D' S', saveS D S x = (D', S', 0) ∧ Well D' S' x [] 0 r r ∧ S'.number = S.number + 1) ∨ ∃ D', saveS D S x = (D', S, 6) ∧ Well D' S t l s r r := by
  rcases good_save h.good h.fine hn x hx with ⟨D', S', h1, h2, h3, h4⟩ | ⟨_, e | ⟨D', h1, h2, h3⟩⟩ | ⟨e, _⟩
  · exact .inl ⟨D', S', h1, (h.near h2 h4).fit, h3⟩
  · exact (no_fuse h.fused e).elim
  · exact .inr ⟨D', h1, (h.near h2 h3).fit⟩
  · exact (no_fuse h.fused e).elim
theorem HeldJ.files {J : Key → Prop} {D D' : DiskD} {N : Nat} {t : Key} {l : List Key} {s : Nat} (h : HeldJ J D N t l s) (e : D'.files = D.files) : HeldJ J D' N t l s :=
  ⟨h.num, h.short, h.shorts, h.le, by rw [e]; exact h.names, by rw [e]; exact h.snap, by rw [e]; exact h.junk, by rw [e]; exact h.next, by rw [e]; exact h.log⟩
/-- What holds between two texts. -/
structure Fl (w wr : World) (b sb : Nat) (v : Value) (D : DiskD) (S : StoreD) (t : Key) (rs : List Key) (s n r : Nat) (U : Nat → Prop) : Prop where
  sx : SX w wr b sb D S U
  well : Well D S t rs s r r
  num : S.number ≤ n
  put : Put2 w wr v rs U
theorem Fl.later {w wr w' : World} {b sb : Nat} {v : Value} {D : DiskD} {S : StoreD} {t : Key} {rs : List Key} {s n r : Nat} {U : Nat → Prop} (h : Fl w wr b sb v D S t rs s n r U) (hk : Below wr.heap.size wr w') : Fl w w' b sb v D S t rs s n r U :=
  ⟨h.sx.later hk, h.well, h.num, h.put.later hk⟩
theorem Fl.row {w wr : World} {b sb : Nat} {p : Option Addr} {cap : Nat} {D : DiskD} {S : StoreD} {t : Key} {rs : List Key} {s n r : Nat} {U : Nat → Prop} (h : Fl w wr b sb (.slice p rs.length cap) D S t rs s n r U) : RowArg wr p (strs rs) := by
  obtain ⟨p2, c2, e, hr⟩ := h.put.arg
  injection e with e _ _
  rw [e]; exact hr
/-- A snapshot is saved, or there is no room. -/
theorem Fl.save {w wr : World} {b sb : Nat} {v : Value} {D : DiskD} {S : StoreD} {t : Key} {rs : List Key} {s n r : Nat} {U : Nat → Prop} (h : Fl w wr b sb v D S t rs s n r U) (hL : Laid w) (hr : r ≤ 4000) (x : Key) (hx : x.length ≤ 4096) (hn : n ≤ 100) :
    (Calls Tryz.prog 10 #[.pointer (some ⟨sb, 0, none⟩), .string (B x)] wr fun e w' => e = .returned (.int .i64 0) ∧ ∃ D' S' U', Fl w w' b sb (.slice none 0 0) D' S' x [] 0 (n + 1) r U') ∨
      Calls Tryz.prog 10 #[.pointer (some ⟨sb, 0, none⟩), .string (B x)] wr fun e w' => e = .returned (.int .i64 6) ∧ ∃ D' U', Fl w w' b sb v D' S t rs s (n + 1) r U' := by
  have hnn := h.num
  rcases full_save h.well (by omega) x (by omega) with ⟨D', S', h1, h2, h3⟩ | ⟨D', h1, h2⟩
  · left
    refine (SSave_ok h.sx hL (by rw [h.well.room]; omega) x (by omega) (by omega) h1).mono ?_
    rintro e w' ⟨he, h4, -⟩
    exact ⟨he, D', S', _, h4, h2, by omega, Put2.none _ _ _⟩
  · right
    refine (SSave_ok h.sx hL (by rw [h.well.room]; omega) x (by omega) (by omega) h1).mono ?_
    rintro e w' ⟨he, h4, h5⟩
    exact ⟨he, D', _, h4, h2, by omega, h.put.kept h5⟩
/-- A record is appended, or there is no room. -/
theorem Fl.append {w wr : World} {b sb : Nat} {v : Value} {D : DiskD} {S : StoreD} {t : Key} {rs : List Key} {s n r : Nat} {U : Nat → Prop} (h : Fl w wr b sb v D S t rs s n r U) (hL : Laid w) (hr : r ≤ 4000) (x : Key) (hx : x.length ≤ 4096) :
    (Calls Tryz.prog 11 #[.pointer (some ⟨sb, 0, none⟩), .slice (some ⟨wr.heap.size, 0, none⟩) 1 1] (wr.alloc (.cells #[.string (B x)] 9)) fun e w' => e = .returned (.int .i64 0) ∧ ∃ D' S' U', SX w w' b sb D' S' U' ∧ Well D' S' t (rs ++ [x]) s r r ∧ S'.number ≤ n + 1 ∧ Put2 w w' v rs U') ∨
      Calls Tryz.prog 11 #[.pointer (some ⟨sb, 0, none⟩), .slice (some ⟨wr.heap.size, 0, none⟩) 1 1] (wr.alloc (.cells #[.string (B x)] 9)) fun e w' => e = .returned (.int .i64 6) ∧ ∃ U', Fl w w' b sb v D S t rs s (n + 1) r U' := by
  have hnn := h.num
  rcases full_put h.well x (by omega) with ⟨D', S', h1, h2, h3⟩ | h1
  · left
    refine (SPut_ok h.sx hL h.well (by omega) x (by omega) h1).mono ?_
    rintro e w' ⟨he, h4, h5⟩
    exact ⟨he, D', S', _, h4, h2, by omega, h.put.kept h5⟩
  · right
    refine (SPut_ok h.sx hL h.well (by omega) x (by omega) h1).mono ?_
    rintro e w' ⟨he, h4, h5⟩
    exact ⟨he, _, h4, h.well, by omega, h.put.kept h5⟩
theorem Fl.sync {w wr : World} {b sb : Nat} {v : Value} {D : DiskD} {S : StoreD} {t : Key} {rs : List Key} {s n r : Nat} {U : Nat → Prop} (h : Fl w wr b sb v D S t rs s n r U) :
    Calls Tryz.prog 16 #[.pointer (some ⟨sb, 0, none⟩)] wr fun e w' => e = .returned (.int .i64 0) ∧ ∃ D' S' s' U', Fl w w' b sb v D' S' t rs s' n r U' := by
  obtain ⟨D', S', h1, h2, h3⟩ := well_keep h.well
  refine (SSync_ok h.sx h.well.count.2.2.2.2.1 h1).mono ?_
  rintro e w' ⟨he, h4, h5⟩
  exact ⟨he, D', S', _, _, h4, h3, by rw [h2]; exact h.num, h.put.kept h5⟩
/-- A copy, apart from all. -/
structure CopyAt (w wr : World) (c : Nat) (D : DiskD) (v : Value) (U Tc : Nat → Prop) : Prop where
  dx : DX w wr c ⟨D.room, D.files, false, 0⟩ Tc
  out : ∀ i, Tc i → ¬ U i
  row : ∀ k, v.ownBlock = some k → ¬ Tc k
theorem Fl.copy {w wr : World} {b sb : Nat} {v : Value} {D : DiskD} {S : StoreD} {t : Key} {rs : List Key} {s n r : Nat} {U : Nat → Prop} (h : Fl w wr b sb v D S t rs s n r U) :
    Calls Tryz.prog 21 #[.pointer (some ⟨b, 0, none⟩)] wr fun e w' => ∃ c Tc, e = .returned (.pointer (some ⟨c, 0, none⟩)) ∧ Fl w w' b sb v D S t rs s n r U ∧ CopyAt w w' c D v U Tc := by
  obtain ⟨T, hx, hT⟩ := h.sx.dx
  have hb := h.sx.below
  have hz := hb.size
  refine (Copy_f hx.dk).mono ?_
  rintro e w' ⟨c, he, hd, hk⟩
  refine ⟨c, _, he, h.later hk, ⟨hb.trans (hk.mono hz), hd, fun i hi => Nat.le_trans hz hi.1⟩, fun i hi hu => ?_, fun k hk2 hi => ?_⟩
  · have := (h.sx.own i hu).2; omega
  · have := (h.put.own.lt k hk2).2; omega
/-- The copy is opened. -/
theorem Fl.open_ {w wr : World} {b sb c : Nat} {v : Value} {D : DiskD} {S : StoreD} {t : Key} {rs : List Key} {s n r : Nat} {U Tc : Nat → Prop} (h : Fl w wr b sb v D S t rs s n r U) (hc : CopyAt w wr c D v U Tc) (hL : Laid w) (hr : r ≤ 4000) :
    Calls Tryz.prog 9 #[.pointer (some ⟨c, 0, none⟩)] wr fun e w' => ∃ sb' p cap, e = .returned (.tuple #[.pointer (some ⟨sb', 0, none⟩), .string (B t), .slice p rs.length cap, .int .i64 0]) ∧ Fl w w' b sb v D S t rs s n r U ∧ RowArg w' p (strs rs) := by
  have hh : Held ⟨D.room, D.files, false, 0⟩ S.number t rs s := h.well.good.held.files rfl
  obtain ⟨D', j, h1, h2, h3, h4, h5⟩ := well_open (c := D.room) (r := D.room) hh hc.dx.fine rfl (by have := hc.dx.fine.fits; exact this) rfl
  have hj : j = rs.length := h4 h.well.good.file
  subst hj
  rw [List.take_length] at h1
  refine (SOpen_ok hc.dx hL (mine_held hh hc.dx) (by show D.room ≤ 1048576; rw [h.well.room]; omega) h1).mono ?_
  rintro e w' ⟨sb', p, cap, U', he, -, h7, -, h9, -⟩
  obtain ⟨p2, cap2, e2, hr2, -, -⟩ := RowArg.of_own h9
  injection e2 with e2 _ _
  subst e2
  exact ⟨sb', p, cap, he, ⟨h.sx.next h7 fun i hi => ⟨hc.dx.own i hi, hc.out i hi⟩, h.well, h.num, own_kept h.put.own h7 hc.row, h.put.apart⟩, hr2⟩
set_option maxRecDepth 100000 in
set_option maxHeartbeats 16000000 in
theorem StoreFull_calls (w : World) (room : Nat) (p q1 : Option Addr) (cap qc1 : Nat) (l : List Key) (sv : List Bool) (hrm : room < 65536) (hl : l.length ≤ maxLen) (hr : RowArg w p (strs l)) (hz : ∀ t ∈ l, t.length ≤ 140737488351232) (hs : sv.length ≤ maxLen) (hsv : BoolsArg w q1 sv) (hL : Laid w) :
    Calls Tryz.prog 6 #[.int .u16 (room : Int), .slice p l.length cap, .slice q1 sv.length qc1] w fun e w' => e = .returned (.bool true) ∧ Below w.heap.size w w' := by
  have HR := Lib.hid hr
  have HZ := Lib.hid hz
  have HL := Lib.hid hL
  have HSV := Lib.hid hsv
  unfold maxLen at hl hs
  clear hr hz hL hsv
  go_enter Tryz.func6, Tryz.ntmps6
  go_wp2_with fail
  go_loopw [7, 8] (fun v u wr => ∃ i : Nat, v = .int .i64 ((weight (l.take i) : Nat) : Int) ∧ u = .int .i64 (i : Int) ∧ i ≤ l.length ∧ i ≤ 100 ∧ weight (l.take i) ≤ i * 140737488351233 ∧ w = wr) (fun _ u _ => l.length - (intOf u).toNat)
  case atStart => exact ⟨0, by simp [weight], rfl, Nat.zero_le _, by omega, by simp [weight], rfl⟩
  case round =>
    obtain ⟨i, rfl, rfl, hi, hi5, hsum, rfl⟩ := hrel
    by_cases hin : i < l.length ∧ i < 100
    · obtain ⟨b, o, rfl, _, hc⟩ := HR.out i (by rw [strs_length]; exact hin.1)
      rw [strs_at _ _ hin.1] at hc
      have HS := Lib.hid (weight_succ l i hin.1)
      have hzi := HZ.out _ (List.getElem_mem hin.1)
      have HI := Lib.hid hin
      have t1 : (i : Int) < (l.length : Int) := by omega
      have t2 : (i : Int) < 100 := by omega
      have t3 : 0 ≤ (i : Int) := by omega
      generalize l[i] = x at *
      clear hin
      generalize hhn : weight (l.take i) = hn at *
      have s1 : hn ≤ 14073748835123300 := Nat.le_trans hsum (by omega)
      have HSUM := Lib.hid hsum
      clear hsum hhn
      go_wp2_with fail
      go_roundw
      case rel =>
        first
          | exact ⟨i + 1, by rw [HS.out]; go_num, by go_num, HI.out.1, HI.out.2, by rw [HS.out]; have := HSUM.out; omega, by first | rfl | trivial⟩
          | ((repeat apply Exists.intro); exact ⟨⟨i + 1, by rw [HS.out]; go_num, by go_num, HI.out.1, HI.out.2, by rw [HS.out]; have := HSUM.out; omega, by first | rfl | trivial⟩, rfl⟩)
      case measure => have := HI.out; simp [intOf]; omega
    · have hW := weight_take_le l i
      by_cases hv : 60 < l.length ∨ (l.length ≤ 60 ∧ 4096 < weight (l.take i)) ∨ (l.length ≤ 60 ∧ weight (l.take i) ≤ 4096 ∧ 200 < sv.length)
      · have s1 : weight (l.take i) ≤ 14073748835123300 := Nat.le_trans hsum (by omega)
        generalize weight (l.take i) = hn at *
        have hguard : ¬ (i : Int) < (l.length : Int) ∨ ((i : Int) < (l.length : Int) ∧ ¬ (i : Int) < 100) := by omega
        have hv2 : (60 : Int) < (l.length : Int) ∨ (¬ (60 : Int) < (l.length : Int) ∧ (4096 : Int) < ((hn : Nat) : Int)) ∨ (¬ (60 : Int) < (l.length : Int) ∧ ¬ (4096 : Int) < ((hn : Nat) : Int) ∧ (200 : Int) < (sv.length : Int)) := by omega
        clear hin hv hsum hW
        rcases hguard with hg1 | ⟨hg1, hg2⟩ <;> rcases hv2 with hv3 | ⟨hv3, hv4⟩ | ⟨hv3, hv4, hv5⟩
        all_goals first
          | (exfalso; omega)
          | (go_wp2_with fail
             with_reducible refine (SWorks_f _ HL.out).mono ?_
             rintro e w2 ⟨rfl, hb2⟩
             have HB2 := Lib.hid hb2
             clear hb2
             go_wp2
             go_ret
             exact ⟨rfl, HB2.out⟩)
      · have hll : l.length ≤ 60 := by omega
        obtain rfl : i = l.length := by omega
        rw [List.take_length] at hv hsum hW ⊢
        have hwt : weight l ≤ 4096 := by omega
        have hs2 : sv.length ≤ 200 := by omega
        have hv3 : ¬ (60 : Int) < (l.length : Int) := by omega
        have hv4 : ¬ (4096 : Int) < ((weight l : Nat) : Int) := by omega
        have hv5 : ¬ (200 : Int) < (sv.length : Int) := by omega
        have t1 : ¬ (l.length : Int) < (l.length : Int) := by omega
        have HSH := Lib.hid (show ∀ r ∈ l, r.length ≤ 4096 from fun r hr => by have := mem_weight hr; omega)
        obtain ⟨r0, hr0⟩ : ∃ r0, r0 = room % 2000 := ⟨_, rfl⟩
        obtain ⟨r, hrr⟩ : ∃ r, r = r0 + 100 := ⟨_, rfl⟩
        have hr5 : r ≤ 4000 := by omega
        have m1 : ((room : Int).tmod 2000) = (r0 : Int) := by rw [Int.tmod_eq_emod_of_nonneg (by omega)]; omega
        have m2 : IntKind.i64.wrap (r0 : Int) = (r0 : Int) := by rw [IntKind.wrap_i64]; omega
        have m3 : (r0 : Int) + 100 = (r : Int) := by omega
        have hr6 : r0 ≤ 2000 := by omega
        have HN := Lib.hid (show Calls Tryz.prog 8 #[.int .i64 ((r0 : Int) + 100)] w fun e w' => ∃ b, e = .returned (.tuple #[.pointer (some ⟨b, 0, none⟩), .int .i64 0]) ∧ DW w w' b ⟨r, [], false, 0⟩ from by rw [m3]; exact DW.new (r := r) (by omega) (Below.refl w.heap.size w))
        obtain ⟨D1, j1, p1, -, hj1, -, w1⟩ := well_open (c := r) (r := r) (held_none r) (fine0 (r := r) (by omega)) rfl (Nat.zero_le _) rfl
        obtain rfl : j1 = 0 := by simpa using hj1
        have P1 := Lib.hid p1
        have W1 := Lib.hid w1
        have HRR := Lib.hid hr5
        clear hin hv hsum hW p1 w1 hj1 hwt hr0 hrr m3 hr5
        obtain ⟨wl, hwl⟩ : ∃ wl, wl = weight l := ⟨_, rfl⟩
        rw [← hwl] at hv4 ⊢
        clear hwl
        go_wp2_with fail
        with_reducible refine HN.out.mono ?_
        rintro e v1 ⟨b, rfl, h1⟩
        obtain ⟨T1, h1⟩ := dx_of h1
        have HO := Lib.hid (show Calls Tryz.prog 9 #[.pointer (some ⟨b, 0, none⟩)] v1 fun e w' => ∃ sb p cap U, e = .returned (.tuple #[.pointer (some ⟨sb, 0, none⟩), .string ⟨#[]⟩, .slice p 0 cap, .int .i64 0]) ∧ SX w w' b sb D1 (opened 0 0 []) U ∧ Kept T1 v1 w' ∧ (∀ i, U i → T1 i ∨ v1.heap.size ≤ i) ∧ _ from SOpen_ok h1 HL.out (mine_held (held_none r) h1) (by show r ≤ 1048576; have := HRR.out; omega) P1.out)
        clear h1 HN P1 m1 m2 hr6
        go_wp2_with fail
        with_reducible refine HO.out.mono ?_
        rintro e v2 ⟨sb, qo, co, U1, rfl, h2, -, -, -⟩
        have H2 := Lib.hid (show Fl w v2 b sb (.slice none 0 0) D1 (opened 0 0 []) [] [] 0 0 r U1 from ⟨h2, W1.out, Nat.le_refl _, Put2.none _ _ _⟩)
        clear h2 HO
        go_wp2_with fail
        go_loopw [15, 16, 17] (fun tp vp ip wr => ∃ (i : Nat) (D : DiskD) (S : StoreD) (t : Key) (rs : List Key) (s : Nat) (U : Nat → Prop), ip = .int .i64 (i : Int) ∧ i ≤ l.length ∧ tp = .string (B t) ∧ rs.length ≤ i ∧ Fl w wr b sb vp D S t rs s i r U) (fun _ _ ip _ => l.length - (intOf ip).toNat)
        case atStart => exact ⟨0, _, _, [], [], 0, _, rfl, Nat.zero_le _, rfl, Nat.le_refl _, H2.out⟩
        case round =>
          obtain ⟨i, D, S, t, rs, s, U, rfl, hi, rfl, hri, hsv2⟩ := hrel
          have H := Lib.hid hsv2
          have HB := hsv2.sx.below
          by_cases hil : i < l.length
          · obtain ⟨bs, os, rfl, hbs, hc⟩ := HR.out i (by rw [strs_length]; exact hil)
            rw [strs_at _ _ hil] at hc
            have t2 : (i : Int) < (l.length : Int) := by omega
            have t3 : 0 ≤ (i : Int) := by omega
            have hcw : wr.cell? ⟨bs, os + i, none⟩ = some (.string (B l[i])) := (HB.cell (p := ⟨bs, os + i, none⟩) hbs).trans hc
            have HSH2 := Lib.hid (HSH.out _ (List.getElem_mem hil))
            have HBW := Lib.hid HB
            have HC := Lib.hid hc
            have HIL := Lib.hid hil
            have hbw : bs < wr.heap.size := Nat.lt_of_lt_of_le hbs HB.size
            clear hsv2
            generalize l[i] = x at *
            have hx3 : x.length ≤ 4096 := HSH2.out
            clear hil hc
            by_cases hsi : i < sv.length
            · obtain ⟨bv, ov, rfl, hbv, hcv⟩ := HSV.out i hsi
              have u1 : (i : Int) < (sv.length : Int) := by omega
              have hcv2 : wr.cell? ⟨bv, ov + i, none⟩ = some (.bool sv[i]) := (HB.cell (p := ⟨bv, ov + i, none⟩) hbv).trans hcv
              generalize sv[i] = sb_ at *
              clear hcv
              cases sb_
              · clear hsi
                clear HB
                obtain ⟨pv0, cv0, hvv, -⟩ := H.out.put.arg
                rcases H.out.append HL.out HRR.out x hx3 with hA | hA
                · have HA := Lib.hid hA
                  clear hA hvv
                  go_wp2_with fail
                  with_reducible refine HA.out.mono ?_
                  rintro e w3 ⟨rfl, D3, S3, U3, a1, a2, a3, a4⟩
                  have hcw3 : w3.cell? ⟨bs, os + i, none⟩ = some (.string (B x)) := (a1.below.cell (p := ⟨bs, os + i, none⟩) hbs).trans HC.out
                  have hbw3 : bs < w3.heap.size := Nat.lt_of_lt_of_le hbs a1.below.size
                  obtain ⟨v5, w5, hra, hx5, hp5⟩ := append_put a1 a4 x (by omega)
                  obtain ⟨pv, cv, rfl, -⟩ := a4.arg
                  obtain ⟨p5, c5, rfl, -⟩ := hp5.arg
                  have HRA := Lib.hid hra
                  have H4 := Lib.hid (show Fl w w5 b sb (.slice p5 (rs ++ [x]).length c5) D3 S3 t (rs ++ [x]) s (i + 1) r U3 from ⟨hx5, a2, a3, hp5⟩)
                  have HRL := Lib.hid (show (rs ++ [x]).length ≤ i + 1 by rw [List.length_append]; simp; omega)
                  have hrl6 : (rs ++ [x]).length ≤ 1000 := by rw [List.length_append]; simp; omega
                  generalize rs ++ [x] = rs5 at *
                  clear a1 a2 a3 a4 hra hx5 hp5 HA H
                  go_wp2_with (first | (at_builtin; refine wpList_append_run2 rfl _ _ _ _ rfl rfl rfl HRA.out ?_) | fail)
                  clear hcw3 hbw3 HRA
                  have K1 := Lib.hid H4.out.sync
                  go_wp2_with fail
                  with_reducible refine K1.out.mono ?_
                  rintro e w6 ⟨rfl, D6, S6, s6, U6, h6⟩
                  have K2 := Lib.hid h6.copy
                  clear h6 K1 H4
                  go_wp2_with fail
                  with_reducible refine K2.out.mono ?_
                  rintro e w7 ⟨c7, T7, rfl, h7, k7⟩
                  have K3 := Lib.hid (h7.open_ k7 HL.out HRR.out)
                  clear h7 k7 K2
                  go_wp2_with fail
                  with_reducible refine K3.out.mono ?_
                  rintro e w8 ⟨sb8, p8, c8, rfl, h8, hr8⟩
                  have H8 := Lib.hid h8
                  have HSM := Lib.hid (Same9_f p8 _ _ _ c8 c5 w8 (by unfold maxLen; omega) (by unfold maxLen; omega) hr8 h8.row)
                  rw [decide_eq_true rfl] at HSM
                  skip
                  clear h8 hr8 K3
                  go_wp2_with fail
                  with_reducible refine HSM.out.mono ?_
                  rintro e w9 ⟨rfl, n9, rfl⟩
                  have H9 := Lib.hid (H8.out.later ((Below.refl _ _).drewN n9))
                  generalize w8.drewN n9 = w9 at *
                  clear HSM H8
                  go_wp2_with fail
                  go_roundw
                  case rel =>
                    first
                      | exact ⟨i + 1, D6, S6, _, _, _, U6, by go_num, HIL.out, rfl, HRL.out, H9.out⟩
                      | ((repeat apply Exists.intro); exact ⟨⟨i + 1, D6, S6, _, _, _, U6, by go_num, HIL.out, rfl, HRL.out, H9.out⟩, rfl⟩)
                  case measure => have := HIL.out; simp [intOf]; omega
                · have HA := Lib.hid hA
                  clear hA
                  subst hvv
                  go_wp2_with fail
                  with_reducible refine HA.out.mono ?_
                  rintro e w5 ⟨rfl, U3, a1⟩
                  have H4 := Lib.hid a1
                  have HRL := Lib.hid (show rs.length ≤ i + 1 by omega)
                  have hrl6 : rs.length ≤ 1000 := by omega
                  clear a1 HA H
                  have K1 := Lib.hid H4.out.sync
                  go_wp2_with fail
                  with_reducible refine K1.out.mono ?_
                  rintro e w6 ⟨rfl, D6, S6, s6, U6, h6⟩
                  have K2 := Lib.hid h6.copy
                  clear h6 K1 H4
                  go_wp2_with fail
                  with_reducible refine K2.out.mono ?_
                  rintro e w7 ⟨c7, T7, rfl, h7, k7⟩
                  have K3 := Lib.hid (h7.open_ k7 HL.out HRR.out)
                  clear h7 k7 K2
                  go_wp2_with fail
                  with_reducible refine K3.out.mono ?_
                  rintro e w8 ⟨sb8, p8, c8, rfl, h8, hr8⟩
                  have H8 := Lib.hid h8
                  have HSM := Lib.hid (Same9_f p8 _ _ _ c8 cv0 w8 (by unfold maxLen; omega) (by unfold maxLen; omega) hr8 h8.row)
                  rw [decide_eq_true rfl] at HSM
                  skip
                  clear h8 hr8 K3
                  go_wp2_with fail
                  with_reducible refine HSM.out.mono ?_
                  rintro e w9 ⟨rfl, n9, rfl⟩
                  have H9 := Lib.hid (H8.out.later ((Below.refl _ _).drewN n9))
                  generalize w8.drewN n9 = w9 at *
                  clear HSM H8
                  go_wp2_with fail
                  go_roundw
                  case rel =>
                    first
                      | exact ⟨i + 1, D6, S6, _, _, _, U6, by go_num, HIL.out, rfl, HRL.out, H9.out⟩
                      | ((repeat apply Exists.intro); exact ⟨⟨i + 1, D6, S6, _, _, _, U6, by go_num, HIL.out, rfl, HRL.out, H9.out⟩, rfl⟩)
                  case measure => have := HIL.out; simp [intOf]; omega
              · clear hsi
                clear HB
                obtain ⟨pv0, cv0, hvv, -⟩ := H.out.put.arg
                rcases H.out.save HL.out HRR.out x hx3 (by omega) with hA | hA
                · have HA := Lib.hid hA
                  clear hA hvv
                  go_wp2_with fail
                  with_reducible refine HA.out.mono ?_
                  rintro e w5 ⟨rfl, D3, S3, U3, a1⟩
                  have hcw5 : w5.cell? ⟨bs, os + i, none⟩ = some (.string (B x)) := (a1.sx.below.cell (p := ⟨bs, os + i, none⟩) hbs).trans HC.out
                  have hbw5 : bs < w5.heap.size := Nat.lt_of_lt_of_le hbs a1.sx.below.size
                  have H4 := Lib.hid (show Fl w w5 b sb (.slice none ([] : List Key).length 0) D3 S3 x [] 0 (i + 1) r U3 from a1)
                  have HRL := Lib.hid (show ([] : List Key).length ≤ i + 1 by simp)
                  have hrl6 : ([] : List Key).length ≤ 1000 := by simp
                  have hzero : (([] : List Key).length : Int) = 0 := rfl
                  clear a1 HA H
                  have K1 := Lib.hid H4.out.sync
                  go_wp2_with fail
                  with_reducible refine K1.out.mono ?_
                  rintro e w6 ⟨rfl, D6, S6, s6, U6, h6⟩
                  have K2 := Lib.hid h6.copy
                  clear h6 K1 H4
                  go_wp2_with fail
                  with_reducible refine K2.out.mono ?_
                  rintro e w7 ⟨c7, T7, rfl, h7, k7⟩
                  have K3 := Lib.hid (h7.open_ k7 HL.out HRR.out)
                  clear h7 k7 K2
                  go_wp2_with fail
                  with_reducible refine K3.out.mono ?_
                  rintro e w8 ⟨sb8, p8, c8, rfl, h8, hr8⟩
                  have H8 := Lib.hid h8
                  have HSM := Lib.hid (Same9_f p8 _ _ _ c8 0 w8 (by unfold maxLen; omega) (by unfold maxLen; omega) hr8 h8.row)
                  rw [decide_eq_true rfl] at HSM
                  rw [show ([] : List Key).length = 0 from rfl] at HSM
                  clear h8 hr8 K3
                  go_wp2_with fail
                  with_reducible refine HSM.out.mono ?_
                  rintro e w9 ⟨rfl, n9, rfl⟩
                  have H9 := Lib.hid (H8.out.later ((Below.refl _ _).drewN n9))
                  generalize w8.drewN n9 = w9 at *
                  clear HSM H8
                  go_wp2_with fail
                  go_roundw
                  case rel =>
                    first
                      | exact ⟨i + 1, D6, S6, _, _, _, U6, by go_num, HIL.out, rfl, HRL.out, H9.out⟩
                      | ((repeat apply Exists.intro); exact ⟨⟨i + 1, D6, S6, _, _, _, U6, by go_num, HIL.out, rfl, HRL.out, H9.out⟩, rfl⟩)
                  case measure => have := HIL.out; simp [intOf]; omega
                · have HA := Lib.hid hA
                  clear hA
                  subst hvv
                  go_wp2_with fail
                  with_reducible refine HA.out.mono ?_
                  rintro e w5 ⟨rfl, D3, U3, a1⟩
                  have H4 := Lib.hid a1
                  have HRL := Lib.hid (show rs.length ≤ i + 1 by omega)
                  have hrl6 : rs.length ≤ 1000 := by omega
                  clear a1 HA H
                  have K1 := Lib.hid H4.out.sync
                  go_wp2_with fail
                  with_reducible refine K1.out.mono ?_
                  rintro e w6 ⟨rfl, D6, S6, s6, U6, h6⟩
                  have K2 := Lib.hid h6.copy
                  clear h6 K1 H4
                  go_wp2_with fail
                  with_reducible refine K2.out.mono ?_
                  rintro e w7 ⟨c7, T7, rfl, h7, k7⟩
                  have K3 := Lib.hid (h7.open_ k7 HL.out HRR.out)
                  clear h7 k7 K2
                  go_wp2_with fail
                  with_reducible refine K3.out.mono ?_
                  rintro e w8 ⟨sb8, p8, c8, rfl, h8, hr8⟩
                  have H8 := Lib.hid h8
                  have HSM := Lib.hid (Same9_f p8 _ _ _ c8 cv0 w8 (by unfold maxLen; omega) (by unfold maxLen; omega) hr8 h8.row)
                  rw [decide_eq_true rfl] at HSM
                  skip
                  clear h8 hr8 K3
                  go_wp2_with fail
                  with_reducible refine HSM.out.mono ?_
                  rintro e w9 ⟨rfl, n9, rfl⟩
                  have H9 := Lib.hid (H8.out.later ((Below.refl _ _).drewN n9))
                  generalize w8.drewN n9 = w9 at *
                  clear HSM H8
                  go_wp2_with fail
                  go_roundw
                  case rel =>
                    first
                      | exact ⟨i + 1, D6, S6, _, _, _, U6, by go_num, HIL.out, rfl, HRL.out, H9.out⟩
                      | ((repeat apply Exists.intro); exact ⟨⟨i + 1, D6, S6, _, _, _, U6, by go_num, HIL.out, rfl, HRL.out, H9.out⟩, rfl⟩)
                  case measure => have := HIL.out; simp [intOf]; omega
            · have u1 : ¬ (i : Int) < (sv.length : Int) := by omega
              clear hsi
              clear HB
              obtain ⟨pv0, cv0, hvv, -⟩ := H.out.put.arg
              rcases H.out.append HL.out HRR.out x hx3 with hA | hA
              · have HA := Lib.hid hA
                clear hA hvv
                go_wp2_with fail
                with_reducible refine HA.out.mono ?_
                rintro e w3 ⟨rfl, D3, S3, U3, a1, a2, a3, a4⟩
                have hcw3 : w3.cell? ⟨bs, os + i, none⟩ = some (.string (B x)) := (a1.below.cell (p := ⟨bs, os + i, none⟩) hbs).trans HC.out
                have hbw3 : bs < w3.heap.size := Nat.lt_of_lt_of_le hbs a1.below.size
                obtain ⟨v5, w5, hra, hx5, hp5⟩ := append_put a1 a4 x (by omega)
                obtain ⟨pv, cv, rfl, -⟩ := a4.arg
                obtain ⟨p5, c5, rfl, -⟩ := hp5.arg
                have HRA := Lib.hid hra
                have H4 := Lib.hid (show Fl w w5 b sb (.slice p5 (rs ++ [x]).length c5) D3 S3 t (rs ++ [x]) s (i + 1) r U3 from ⟨hx5, a2, a3, hp5⟩)
                have HRL := Lib.hid (show (rs ++ [x]).length ≤ i + 1 by rw [List.length_append]; simp; omega)
                have hrl6 : (rs ++ [x]).length ≤ 1000 := by rw [List.length_append]; simp; omega
                generalize rs ++ [x] = rs5 at *
                clear a1 a2 a3 a4 hra hx5 hp5 HA H
                go_wp2_with (first | (at_builtin; refine wpList_append_run2 rfl _ _ _ _ rfl rfl rfl HRA.out ?_) | fail)
                clear hcw3 hbw3 HRA
                have K1 := Lib.hid H4.out.sync
                go_wp2_with fail
                with_reducible refine K1.out.mono ?_
                rintro e w6 ⟨rfl, D6, S6, s6, U6, h6⟩
                have K2 := Lib.hid h6.copy
                clear h6 K1 H4
                go_wp2_with fail
                with_reducible refine K2.out.mono ?_
                rintro e w7 ⟨c7, T7, rfl, h7, k7⟩
                have K3 := Lib.hid (h7.open_ k7 HL.out HRR.out)
                clear h7 k7 K2
                go_wp2_with fail
                with_reducible refine K3.out.mono ?_
                rintro e w8 ⟨sb8, p8, c8, rfl, h8, hr8⟩
                have H8 := Lib.hid h8
                have HSM := Lib.hid (Same9_f p8 _ _ _ c8 c5 w8 (by unfold maxLen; omega) (by unfold maxLen; omega) hr8 h8.row)
                rw [decide_eq_true rfl] at HSM
                skip
                clear h8 hr8 K3
                go_wp2_with fail
                with_reducible refine HSM.out.mono ?_
                rintro e w9 ⟨rfl, n9, rfl⟩
                have H9 := Lib.hid (H8.out.later ((Below.refl _ _).drewN n9))
                generalize w8.drewN n9 = w9 at *
                clear HSM H8
                go_wp2_with fail
                go_roundw
                case rel =>
                  first
                    | exact ⟨i + 1, D6, S6, _, _, _, U6, by go_num, HIL.out, rfl, HRL.out, H9.out⟩
                    | ((repeat apply Exists.intro); exact ⟨⟨i + 1, D6, S6, _, _, _, U6, by go_num, HIL.out, rfl, HRL.out, H9.out⟩, rfl⟩)
                case measure => have := HIL.out; simp [intOf]; omega
              · have HA := Lib.hid hA
                clear hA
                subst hvv
                go_wp2_with fail
                with_reducible refine HA.out.mono ?_
                rintro e w5 ⟨rfl, U3, a1⟩
                have H4 := Lib.hid a1
                have HRL := Lib.hid (show rs.length ≤ i + 1 by omega)
                have hrl6 : rs.length ≤ 1000 := by omega
                clear a1 HA H
                have K1 := Lib.hid H4.out.sync
                go_wp2_with fail
                with_reducible refine K1.out.mono ?_
                rintro e w6 ⟨rfl, D6, S6, s6, U6, h6⟩
                have K2 := Lib.hid h6.copy
                clear h6 K1 H4
                go_wp2_with fail
                with_reducible refine K2.out.mono ?_
                rintro e w7 ⟨c7, T7, rfl, h7, k7⟩
                have K3 := Lib.hid (h7.open_ k7 HL.out HRR.out)
                clear h7 k7 K2
                go_wp2_with fail
                with_reducible refine K3.out.mono ?_
                rintro e w8 ⟨sb8, p8, c8, rfl, h8, hr8⟩
                have H8 := Lib.hid h8
                have HSM := Lib.hid (Same9_f p8 _ _ _ c8 cv0 w8 (by unfold maxLen; omega) (by unfold maxLen; omega) hr8 h8.row)
                rw [decide_eq_true rfl] at HSM
                skip
                clear h8 hr8 K3
                go_wp2_with fail
                with_reducible refine HSM.out.mono ?_
                rintro e w9 ⟨rfl, n9, rfl⟩
                have H9 := Lib.hid (H8.out.later ((Below.refl _ _).drewN n9))
                generalize w8.drewN n9 = w9 at *
                clear HSM H8
                go_wp2_with fail
                go_roundw
                case rel =>
                  first
                    | exact ⟨i + 1, D6, S6, _, _, _, U6, by go_num, HIL.out, rfl, HRL.out, H9.out⟩
                    | ((repeat apply Exists.intro); exact ⟨⟨i + 1, D6, S6, _, _, _, U6, by go_num, HIL.out, rfl, HRL.out, H9.out⟩, rfl⟩)
                case measure => have := HIL.out; simp [intOf]; omega
          · have t2 : ¬ (i : Int) < (l.length : Int) := by omega
            have HBW := Lib.hid HB
            clear hsv2 HB H
            go_wp2_with fail
            with_reducible refine (SWorks_f _ (HL.out.next HBW.out)).mono ?_
            rintro e w8 ⟨rfl, hb8⟩
            have HB8 := Lib.hid (HBW.out.trans (hb8.mono HBW.out.size))
            clear hb8
            go_wp2
            go_ret
            exact ⟨rfl, HB8.out⟩
end Go.Proofs.YtmejdcnnpenaaaaGreatDoor.St
