/-
  Stores (layer 9): the statement StoreSaves, walked. Conditions: the arguments lie in memory and are within the reach; the tables are laid.
-/
import Derived.Test.YtmejdcnnpenaaaaGreatDoorZStRow
open Go Go.RowKit
namespace Go.Proofs.YtmejdcnnpenaaaaGreatDoor.St
open Base Mp Dk Frame Lg

/-- What holds between two texts. -/
structure Sv (w wr : World) (b sb : Nat) (v : Value) (D : DiskD) (S : StoreD) (t : Key) (rs : List Key) (s n c : Nat) (U : Nat → Prop) : Prop where
  sx : SX w wr b sb D S U
  well : Well D S t rs s c 65536
  num : S.number = n
  put : Put2 w wr v rs U
theorem Sv.count {w wr : World} {b sb : Nat} {v : Value} {D : DiskD} {S : StoreD} {t : Key} {rs : List Key} {s n c : Nat} {U : Nat → Prop} (h : Sv w wr b sb v D S t rs s n c U) :
    Calls Tryz.prog 12 #[.pointer (some ⟨sb, 0, none⟩)] wr (fun e w' => e = .returned (.int .u64 (n : Int)) ∧ wr = w') ∧ Calls Tryz.prog 13 #[.pointer (some ⟨sb, 0, none⟩)] wr (fun e w' => e = .returned (.int .i64 (rs.length : Int)) ∧ wr = w') ∧
      Calls Tryz.prog 14 #[.pointer (some ⟨b, 0, none⟩)] wr (fun e w' => ∃ p k cap, e = .returned (.slice p k cap) ∧ k ≤ 2 ∧ Below wr.heap.size wr w') := by
  obtain ⟨lb, h1, h2⟩ := h.sx.both
  obtain ⟨T, hx, -⟩ := h.sx.dx
  have e1 := SNumber_f h1
  have e2 := SCount_f h1 h2
  rw [h.num] at e1
  rw [h.well.count.1] at e2
  refine ⟨e1, e2, (Names_f hx.dk).mono ?_⟩
  rintro e w' ⟨v, rfl, hr, hk⟩
  obtain ⟨p, cap, rfl, _⟩ := names_form hr
  exact ⟨p, _, cap, rfl, h.well.good.few h.well.fine, hk⟩
theorem Sv.later {w wr w' : World} {b sb : Nat} {v : Value} {D : DiskD} {S : StoreD} {t : Key} {rs : List Key} {s n c : Nat} {U : Nat → Prop} (h : Sv w wr b sb v D S t rs s n c U) (hk : Below wr.heap.size wr w') : Sv w w' b sb v D S t rs s n c U :=
  ⟨h.sx.later hk, h.well, h.num, h.put.later hk⟩
/-- A snapshot is saved. -/
theorem Sv.save {w wr : World} {b sb : Nat} {v : Value} {D : DiskD} {S : StoreD} {t : Key} {rs : List Key} {s n c : Nat} {U : Nat → Prop} (h : Sv w wr b sb v D S t rs s n c U) (hL : Laid w) (x : Key) (hx : x.length ≤ 4096) (hn : n ≤ 100) (hc : c + (8 + x.length) ≤ 65536) :
    Calls Tryz.prog 10 #[.pointer (some ⟨sb, 0, none⟩), .string (B x)] wr fun e w' => e = .returned (.int .i64 0) ∧ ∃ D' S' U', Sv w w' b sb (.slice none 0 0) D' S' x [] 0 (n + 1) (c + (8 + x.length)) U' := by
  obtain ⟨D', S', h1, h2, h3⟩ := well_save h.well (by rw [h.num]; omega) x (by omega) hc
  refine (SSave_ok h.sx hL (by rw [h.well.room]; decide) x (by omega) (by rw [h.num]; omega) h1).mono ?_
  rintro e w' ⟨he, h4, -⟩
  exact ⟨he, D', S', _, h4, h3, by rw [h2, h.num], Put2.none _ _ _⟩
/-- A record is appended. -/
theorem Sv.append {w wr : World} {b sb : Nat} {v : Value} {D : DiskD} {S : StoreD} {t : Key} {rs : List Key} {s n c : Nat} {U : Nat → Prop} (h : Sv w wr b sb v D S t rs s n c U) (hL : Laid w) (x : Key) (hx : x.length ≤ 4096) (hc : c + (8 + x.length) ≤ 65536) :
    Calls Tryz.prog 11 #[.pointer (some ⟨sb, 0, none⟩), .slice (some ⟨wr.heap.size, 0, none⟩) 1 1] (wr.alloc (.cells #[.string (B x)] 9)) fun e w' => e = .returned (.int .i64 0) ∧ ∃ D' S' U', SX w w' b sb D' S' U' ∧ Well D' S' t (rs ++ [x]) s (c + (8 + x.length)) 65536 ∧ S'.number = n ∧ Put2 w w' v rs U' := by
  obtain ⟨D', S', h1, h2, h3⟩ := well_put h.well x (by omega) hc
  have hcc := h.well.count.2.2.2.2.2
  refine (SPut_ok h.sx hL h.well (by omega) x (by omega) h1).mono ?_
  rintro e w' ⟨he, h4, h5⟩
  exact ⟨he, D', S', _, h4, h3, by rw [h2, h.num], h.put.kept h5⟩
/-- The store is opened again. -/
theorem Sv.open_ {w wr : World} {b sb : Nat} {v : Value} {D : DiskD} {S : StoreD} {t : Key} {rs : List Key} {s n c : Nat} {U : Nat → Prop} (h : Sv w wr b sb v D S t rs s n c U) (hL : Laid w) :
    Calls Tryz.prog 9 #[.pointer (some ⟨b, 0, none⟩)] wr fun e w' => ∃ sb' p cap D' S' U' s', e = .returned (.tuple #[.pointer (some ⟨sb', 0, none⟩), .string (B t), .slice p rs.length cap, .int .i64 0]) ∧ Sv w w' b sb' v D' S' t rs s' n c U' ∧ RowArg w' p (strs rs) := by
  obtain ⟨T, hx, hT⟩ := h.sx.dx
  obtain ⟨D', j, h1, h2, h3, h4, h5⟩ := well_open h.well.good.held h.well.fine h.well.fused h.well.total h.well.room
  have hj : j = rs.length := h4 h.well.good.file
  subst hj
  rw [List.take_length] at h1 h5
  refine (SOpen_ok hx hL (mine_held h.well.good.held hx) (by rw [h.well.room]; decide) h1).mono ?_
  rintro e w' ⟨sb', p, cap, U', he, h6, h7, h8, h9, h10⟩
  obtain ⟨p2, cap2, e2, hr, -, -⟩ := RowArg.of_own h9
  injection e2 with e2 _ _
  subst e2
  exact ⟨sb', p, cap, D', _, U', _, he, ⟨h6, h5, h.num, h.put.open_ hT h7 h8⟩, hr⟩
theorem Sv.le {w wr : World} {b sb : Nat} {v : Value} {D : DiskD} {S : StoreD} {t : Key} {rs : List Key} {s n c c2 : Nat} {U : Nat → Prop} (h : Sv w wr b sb v D S t rs s n c U) (hc : c ≤ c2) : Sv w wr b sb v D S t rs s n c2 U :=
  ⟨h.sx, ⟨h.well.good, h.well.fine, h.well.fused, Nat.le_trans h.well.total hc, h.well.room⟩, h.num, h.put⟩
theorem Sv.row {w wr : World} {b sb : Nat} {p : Option Addr} {cap : Nat} {D : DiskD} {S : StoreD} {t : Key} {rs : List Key} {s n c : Nat} {U : Nat → Prop} (h : Sv w wr b sb (.slice p rs.length cap) D S t rs s n c U) : RowArg wr p (strs rs) := by
  obtain ⟨p2, c2, e, hr⟩ := h.put.arg
  injection e with e _ _
  rw [e]; exact hr
theorem cost_ok {l : List Key} {i : Nat} (hi : i < l.length) (hw : weight l ≤ 4096) : 8 * weight (l.take i) + (8 + (l[i]).length) ≤ 8 * weight (l.take (i + 1)) ∧ 8 * weight (l.take (i + 1)) ≤ 65536 := by
  have h1 := weight_succ l i hi
  have h2 := weight_take_le l (i + 1)
  omega
set_option maxRecDepth 100000 in
set_option maxHeartbeats 16000000 in
theorem StoreSaves_calls (w : World) (p q1 q2 : Option Addr) (cap qc1 qc2 : Nat) (l : List Key) (sv op : List Bool) (hl : l.length ≤ maxLen) (hr : RowArg w p (strs l)) (hz : ∀ t ∈ l, t.length ≤ 140737488351232) (hs : sv.length ≤ maxLen) (hsv : BoolsArg w q1 sv) (ho : op.length ≤ maxLen) (hop : BoolsArg w q2 op) (hL : Laid w) :
    Calls Tryz.prog 3 #[.slice p l.length cap, .slice q1 sv.length qc1, .slice q2 op.length qc2] w fun e w' => e = .returned (.bool true) ∧ Below w.heap.size w w' := by
  have HR := Lib.hid hr
  have HZ := Lib.hid hz
  have HL := Lib.hid hL
  have HSV := Lib.hid hsv
  have HOP := Lib.hid hop
  unfold maxLen at hl hs ho
  clear hr hz hL hsv hop
  go_enter Tryz.func3, Tryz.ntmps3
  go_wp2_with fail
  go_loopw [7, 8] (fun v u wr => ∃ i : Nat, v = .int .i64 ((weight (l.take i) : Nat) : Int) ∧ u = .int .i64 (i : Int) ∧ i ≤ l.length ∧ i ≤ 100 ∧ weight (l.take i) ≤ i * 140737488351233 ∧ w = wr) (fun _ u _ => l.length - (intOf u).toNat)
  case atStart => exact ⟨0, by simp [weight], rfl, Nat.zero_le _, by omega, by simp [weight], rfl⟩
  case round =>
    obtain ⟨i, rfl, rfl, hi, hi5, hsum, rfl⟩ := hrel
    by_cases hin : i < l.length ∧ i < 100
    · obtain ⟨b, o, rfl, _, hc⟩ := HR.out i (by rw [strs_length]; exact hin.1)
      rw [strs_at _ _ hin.1] at hc
      have HS := Lib.hid (weight_succ l i hin.1)
      have hzi := HZ.out _ (List.getElem_mem hin.1)
      have HI := Lib.hid hin
      have t1 : (i : Int) < (l.length : Int) := by omega
      have t2 : (i : Int) < 100 := by omega
      have t3 : 0 ≤ (i : Int) := by omega
      generalize l[i] = x at *
      clear hin
      generalize hhn : weight (l.take i) = hn at *
      have s1 : hn ≤ 14073748835123300 := Nat.le_trans hsum (by omega)
      have HSUM := Lib.hid hsum
      clear hsum hhn
      go_wp2_with fail
      go_roundw
      case rel =>
        first
          | exact ⟨i + 1, by rw [HS.out]; go_num, by go_num, HI.out.1, HI.out.2, by rw [HS.out]; have := HSUM.out; omega, by first | rfl | trivial⟩
          | ((repeat apply Exists.intro); exact ⟨⟨i + 1, by rw [HS.out]; go_num, by go_num, HI.out.1, HI.out.2, by rw [HS.out]; have := HSUM.out; omega, by first | rfl | trivial⟩, rfl⟩)
      case measure => have := HI.out; simp [intOf]; omega
    · have hW := weight_take_le l i
      by_cases hv : 60 < l.length ∨ (l.length ≤ 60 ∧ 4096 < weight (l.take i)) ∨ (l.length ≤ 60 ∧ weight (l.take i) ≤ 4096 ∧ 200 < sv.length) ∨ (l.length ≤ 60 ∧ weight (l.take i) ≤ 4096 ∧ sv.length ≤ 200 ∧ 200 < op.length)
      · have s1 : weight (l.take i) ≤ 14073748835123300 := Nat.le_trans hsum (by omega)
        generalize weight (l.take i) = hn at *
        have hguard : ¬ (i : Int) < (l.length : Int) ∨ ((i : Int) < (l.length : Int) ∧ ¬ (i : Int) < 100) := by omega
        have hv2 : (60 : Int) < (l.length : Int) ∨ (¬ (60 : Int) < (l.length : Int) ∧ (4096 : Int) < ((hn : Nat) : Int)) ∨ (¬ (60 : Int) < (l.length : Int) ∧ ¬ (4096 : Int) < ((hn : Nat) : Int) ∧ (200 : Int) < (sv.length : Int)) ∨ (¬ (60 : Int) < (l.length : Int) ∧ ¬ (4096 : Int) < ((hn : Nat) : Int) ∧ ¬ (200 : Int) < (sv.length : Int) ∧ (200 : Int) < (op.length : Int)) := by omega
        clear hin hv hsum hW
        rcases hguard with hg1 | ⟨hg1, hg2⟩ <;> rcases hv2 with hv3 | ⟨hv3, hv4⟩ | ⟨hv3, hv4, hv5⟩ | ⟨hv3, hv4, hv5, hv6⟩
        all_goals first
          | (exfalso; omega)
          | (go_wp2_with fail
             with_reducible refine (SWorks_f _ HL.out).mono ?_
             rintro e w2 ⟨rfl, hb2⟩
             have HB2 := Lib.hid hb2
             clear hb2
             go_wp2
             go_ret
             exact ⟨rfl, HB2.out⟩)
      · have hll : l.length ≤ 60 := by omega
        obtain rfl : i = l.length := by omega
        rw [List.take_length] at hv hsum hW ⊢
        have hwt : weight l ≤ 4096 := by omega
        have HWT := Lib.hid hwt
        have hs2 : sv.length ≤ 200 := by omega
        have ho2 : op.length ≤ 200 := by omega
        have hv3 : ¬ (60 : Int) < (l.length : Int) := by omega
        have hv4 : ¬ (4096 : Int) < ((weight l : Nat) : Int) := by omega
        have hv5 : ¬ (200 : Int) < (sv.length : Int) := by omega
        have hv6 : ¬ (200 : Int) < (op.length : Int) := by omega
        have t1 : ¬ (l.length : Int) < (l.length : Int) := by omega
        have HSH := Lib.hid (show ∀ r ∈ l, r.length ≤ 4096 from fun r hr => by have := mem_weight hr; omega)
        have HN := Lib.hid (show Calls Tryz.prog 8 #[.int .i64 65536] w fun e w' => ∃ b, e = .returned (.tuple #[.pointer (some ⟨b, 0, none⟩), .int .i64 0]) ∧ DW w w' b ⟨65536, [], false, 0⟩ from DW.new (r := 65536) (by decide) (Below.refl w.heap.size w))
        obtain ⟨D1, j1, p1, -, hj1, -, w1⟩ := well_open (c := 0) (r := 65536) (held_none 65536) (fine0 (r := 65536) (by decide)) rfl (Nat.le_refl _) rfl
        obtain rfl : j1 = 0 := by simpa using hj1
        have P1 := Lib.hid p1
        have W1 := Lib.hid w1
        clear hin hv hsum hW p1 w1 hj1 hwt
        obtain ⟨wl, hwl⟩ : ∃ wl, wl = weight l := ⟨_, rfl⟩
        rw [← hwl] at hv4 ⊢
        clear hwl
        go_wp2_with fail
        with_reducible refine HN.out.mono ?_
        rintro e v1 ⟨b, rfl, h1⟩
        obtain ⟨T1, h1⟩ := dx_of h1
        have HO := Lib.hid (show Calls Tryz.prog 9 #[.pointer (some ⟨b, 0, none⟩)] v1 fun e w' => ∃ sb p cap U, e = .returned (.tuple #[.pointer (some ⟨sb, 0, none⟩), .string ⟨#[]⟩, .slice p 0 cap, .int .i64 0]) ∧ SX w w' b sb D1 (opened 0 0 []) U ∧ Kept T1 v1 w' ∧ (∀ i, U i → T1 i ∨ v1.heap.size ≤ i) ∧ _ from SOpen_ok h1 HL.out (mine_held (held_none 65536) h1) (by decide) P1.out)
        clear h1 HN P1
        go_wp2_with fail
        with_reducible refine HO.out.mono ?_
        rintro e v2 ⟨sb1, qo, co, U1, rfl, h2, -, -, -⟩
        have H2 := Lib.hid (show Sv w v2 b sb1 (.slice none 0 0) D1 (opened 0 0 []) [] [] 0 0 0 U1 from ⟨h2, W1.out, rfl, Put2.none _ _ _⟩)
        clear h2 HO
        go_wp2_with fail
        go_loopw [11, 15, 16, 17, 18] (fun sp tp np vp ip wr => ∃ (i sb : Nat) (D : DiskD) (S : StoreD) (t : Key) (rs : List Key) (s n : Nat) (U : Nat → Prop), ip = .int .i64 (i : Int) ∧ i ≤ l.length ∧ sp = .pointer (some ⟨sb, 0, none⟩) ∧ tp = .string (B t) ∧ np = .int .u64 (n : Int) ∧ n ≤ i ∧ rs.length ≤ i ∧ Sv w wr b sb vp D S t rs s n (8 * weight (l.take i)) U) (fun _ _ _ _ ip _ => l.length - (intOf ip).toNat)
        case atStart => exact ⟨0, sb1, _, _, [], [], 0, 0, _, rfl, Nat.zero_le _, rfl, rfl, rfl, Nat.le_refl _, Nat.le_refl _, by simpa [weight] using H2.out⟩
        case round =>
          obtain ⟨i, sb, D, S, t, rs, s, n, U, rfl, hi, rfl, rfl, rfl, hni, hri, hsv2⟩ := hrel
          have H := Lib.hid hsv2
          have HB := hsv2.sx.below
          by_cases hil : i < l.length
          · obtain ⟨bs, os, rfl, hbs, hc⟩ := HR.out i (by rw [strs_length]; exact hil)
            rw [strs_at _ _ hil] at hc
            have t2 : (i : Int) < (l.length : Int) := by omega
            have t3 : 0 ≤ (i : Int) := by omega
            have hcw : wr.cell? ⟨bs, os + i, none⟩ = some (.string (B l[i])) := (HB.cell (p := ⟨bs, os + i, none⟩) hbs).trans hc
            have HSH2 := Lib.hid (HSH.out _ (List.getElem_mem hil))
            have HCO := Lib.hid (cost_ok hil HWT.out)
            have HBW := Lib.hid HB
            have HC := Lib.hid hc
            have HIL := Lib.hid hil
            have hbw : bs < wr.heap.size := Nat.lt_of_lt_of_le hbs HB.size
            clear hsv2
            generalize l[i] = x at *
            have hx3 : x.length ≤ 4096 := HSH2.out
            clear hil hc
            by_cases hsi : i < sv.length
            · obtain ⟨bv, ov, rfl, hbv, hcv⟩ := HSV.out i hsi
              have u1 : (i : Int) < (sv.length : Int) := by omega
              have hcv2 : wr.cell? ⟨bv, ov + i, none⟩ = some (.bool sv[i]) := (HB.cell (p := ⟨bv, ov + i, none⟩) hbv).trans hcv
              generalize sv[i] = sb_ at *
              clear hcv
              cases sb_
              · clear hsi
                have HA := Lib.hid (H.out.append HL.out x hx3 (by have := HCO.out; omega))
                clear HB
                go_wp2_with fail
                with_reducible refine HA.out.mono ?_
                rintro e w3 ⟨rfl, D3, S3, U3, a1, a2, a3, a4⟩
                have hcw3 : w3.cell? ⟨bs, os + i, none⟩ = some (.string (B x)) := (a1.below.cell (p := ⟨bs, os + i, none⟩) hbs).trans HC.out
                have hbw3 : bs < w3.heap.size := Nat.lt_of_lt_of_le hbs a1.below.size
                obtain ⟨v5, w5, hra, hx5, hp5⟩ := append_put a1 a4 x (by omega)
                obtain ⟨pv, cv, rfl, -⟩ := a4.arg
                obtain ⟨p5, c5, rfl, -⟩ := hp5.arg
                have HRA := Lib.hid hra
                have H4 := Lib.hid (show Sv w w5 b sb (.slice p5 (rs ++ [x]).length c5) D3 S3 t (rs ++ [x]) s n (8 * weight (l.take i) + (8 + x.length)) U3 from ⟨hx5, a2, a3, hp5⟩)
                have HRL := Lib.hid (show (rs ++ [x]).length ≤ i + 1 by rw [List.length_append]; simp; omega)
                have HNI := Lib.hid (show n ≤ i + 1 by omega)
                have hrl6 : (rs ++ [x]).length ≤ 1000 := by rw [List.length_append]; simp; omega
                generalize rs ++ [x] = rs5 at *
                clear a1 a2 a3 a4 hra hx5 hp5 HA H
                go_wp2_with (at_builtin; refine wpList_append_run2 rfl _ _ _ _ rfl rfl rfl HRA.out ?_)
                clear hcw3 hbw3 HRA
                obtain ⟨k1, k2, k3⟩ := H4.out.count
                have K1 := Lib.hid k1
                have K2 := Lib.hid k2
                have K3 := Lib.hid k3
                clear k1 k2 k3
                go_wp2_with fail
                with_reducible refine K1.out.mono ?_
                rintro e w6 ⟨rfl, rfl⟩
                go_wp2_with fail
                with_reducible refine K2.out.mono ?_
                rintro e w6 ⟨rfl, rfl⟩
                go_wp2_with fail
                with_reducible refine K3.out.mono ?_
                rintro e w6 ⟨pn, kn, cn, rfl, hkn, hb6⟩
                have hkn2 : ¬ (2 : Int) < (kn : Int) := by omega
                have H6 := Lib.hid ((H4.out.later hb6).le HCO.out.1)
                have HB6 := (H4.out.later hb6).sx.below
                clear hb6 K1 K2 K3 H4 hkn
                by_cases hoi : i < op.length
                · obtain ⟨bo, oo, rfl, hbo, hco⟩ := HOP.out i hoi
                  have o1 : (i : Int) < (op.length : Int) := by omega
                  have hco2 : w6.cell? ⟨bo, oo + i, none⟩ = some (.bool op[i]) := (HB6.cell (p := ⟨bo, oo + i, none⟩) hbo).trans hco
                  generalize op[i] = ob at *
                  clear hco hoi
                  cases ob
                  · clear HB6
                    go_wp2_with fail
                    go_roundw
                    case rel =>
                      first
                        | exact ⟨i + 1, sb, D3, S3, _, _, _, _, U3, by go_num, HIL.out, rfl, rfl, by go_num, HNI.out, HRL.out, H6.out⟩
                        | ((repeat apply Exists.intro); exact ⟨⟨i + 1, sb, D3, S3, _, _, _, _, U3, by go_num, HIL.out, rfl, rfl, by go_num, HNI.out, HRL.out, H6.out⟩, rfl⟩)
                    case measure => have := HIL.out; simp [intOf]; omega
                  · clear HB6
                    have HO := Lib.hid (H6.out.open_ HL.out)
                    go_wp2_with fail
                    with_reducible refine HO.out.mono ?_
                    rintro e w7 ⟨sb7, p7, c7, D7, S7, U7, s7, rfl, h7, hr7⟩
                    have H7 := Lib.hid h7
                    have HSM := Lib.hid (Same9_f p7 _ _ _ c7 c5 w7 (by unfold maxLen; omega) (by unfold maxLen; omega) hr7 h7.row)
                    rw [decide_eq_true rfl] at HSM
                    skip
                    clear h7 hr7 HO H6
                    go_wp2_with fail
                    with_reducible refine HSM.out.mono ?_
                    rintro e w8 ⟨rfl, n8, rfl⟩
                    have H8 := Lib.hid (H7.out.later ((Below.refl _ _).drewN n8))
                    generalize w7.drewN n8 = w8 at *
                    have K1 := Lib.hid H8.out.count.1
                    clear HSM H7
                    go_wp2_with fail
                    with_reducible refine K1.out.mono ?_
                    rintro e w9 ⟨rfl, rfl⟩
                    go_wp2_with fail
                    go_roundw
                    case rel =>
                      first
                        | exact ⟨i + 1, sb7, D7, S7, _, _, _, _, U7, by go_num, HIL.out, rfl, rfl, by go_num, HNI.out, HRL.out, H8.out⟩
                        | ((repeat apply Exists.intro); exact ⟨⟨i + 1, sb7, D7, S7, _, _, _, _, U7, by go_num, HIL.out, rfl, rfl, by go_num, HNI.out, HRL.out, H8.out⟩, rfl⟩)
                    case measure => have := HIL.out; simp [intOf]; omega
                · have o1 : ¬ (i : Int) < (op.length : Int) := by omega
                  clear hoi HB6
                  go_wp2_with fail
                  go_roundw
                  case rel =>
                    first
                      | exact ⟨i + 1, sb, D3, S3, _, _, _, _, U3, by go_num, HIL.out, rfl, rfl, by go_num, HNI.out, HRL.out, H6.out⟩
                      | ((repeat apply Exists.intro); exact ⟨⟨i + 1, sb, D3, S3, _, _, _, _, U3, by go_num, HIL.out, rfl, rfl, by go_num, HNI.out, HRL.out, H6.out⟩, rfl⟩)
                  case measure => have := HIL.out; simp [intOf]; omega
              · clear hsi
                have HA := Lib.hid (H.out.save HL.out x hx3 (by omega) (by have := HCO.out; omega))
                clear HB
                go_wp2_with fail
                with_reducible refine HA.out.mono ?_
                rintro e w5 ⟨rfl, D3, S3, U3, a1⟩
                have hcw5 : w5.cell? ⟨bs, os + i, none⟩ = some (.string (B x)) := (a1.sx.below.cell (p := ⟨bs, os + i, none⟩) hbs).trans HC.out
                have hbw5 : bs < w5.heap.size := Nat.lt_of_lt_of_le hbs a1.sx.below.size
                have wn : IntKind.u64.wrap ((n : Int) + 1) = ((n + 1 : Nat) : Int) := by rw [IntKind.wrap_u64]; omega
                have H4 := Lib.hid (show Sv w w5 b sb (.slice none ([] : List Key).length 0) D3 S3 x [] 0 (n + 1) (8 * weight (l.take i) + (8 + x.length)) U3 from a1)
                have HRL := Lib.hid (show ([] : List Key).length ≤ i + 1 by simp)
                have HNI := Lib.hid (show n + 1 ≤ i + 1 by omega)
                have hrl6 : ([] : List Key).length ≤ 1000 := by simp
                have hzero : (([] : List Key).length : Int) = 0 := rfl
                clear a1 HA H
                obtain ⟨k1, k2, k3⟩ := H4.out.count
                have K1 := Lib.hid k1
                have K2 := Lib.hid k2
                have K3 := Lib.hid k3
                clear k1 k2 k3
                go_wp2_with fail
                with_reducible refine K1.out.mono ?_
                rintro e w6 ⟨rfl, rfl⟩
                go_wp2_with fail
                with_reducible refine K2.out.mono ?_
                rintro e w6 ⟨rfl, rfl⟩
                go_wp2_with fail
                with_reducible refine K3.out.mono ?_
                rintro e w6 ⟨pn, kn, cn, rfl, hkn, hb6⟩
                have hkn2 : ¬ (2 : Int) < (kn : Int) := by omega
                have H6 := Lib.hid ((H4.out.later hb6).le HCO.out.1)
                have HB6 := (H4.out.later hb6).sx.below
                clear hb6 K1 K2 K3 H4 hkn
                by_cases hoi : i < op.length
                · obtain ⟨bo, oo, rfl, hbo, hco⟩ := HOP.out i hoi
                  have o1 : (i : Int) < (op.length : Int) := by omega
                  have hco2 : w6.cell? ⟨bo, oo + i, none⟩ = some (.bool op[i]) := (HB6.cell (p := ⟨bo, oo + i, none⟩) hbo).trans hco
                  generalize op[i] = ob at *
                  clear hco hoi
                  cases ob
                  · clear HB6
                    go_wp2_with fail
                    go_roundw
                    case rel =>
                      first
                        | exact ⟨i + 1, sb, D3, S3, _, _, _, _, U3, by go_num, HIL.out, rfl, rfl, by go_num, HNI.out, HRL.out, H6.out⟩
                        | ((repeat apply Exists.intro); exact ⟨⟨i + 1, sb, D3, S3, _, _, _, _, U3, by go_num, HIL.out, rfl, rfl, by go_num, HNI.out, HRL.out, H6.out⟩, rfl⟩)
                    case measure => have := HIL.out; simp [intOf]; omega
                  · clear HB6
                    have HO := Lib.hid (H6.out.open_ HL.out)
                    go_wp2_with fail
                    with_reducible refine HO.out.mono ?_
                    rintro e w7 ⟨sb7, p7, c7, D7, S7, U7, s7, rfl, h7, hr7⟩
                    have H7 := Lib.hid h7
                    have HSM := Lib.hid (Same9_f p7 _ _ _ c7 0 w7 (by unfold maxLen; omega) (by unfold maxLen; omega) hr7 h7.row)
                    rw [decide_eq_true rfl] at HSM
                    rw [show ([] : List Key).length = 0 from rfl] at HSM
                    clear h7 hr7 HO H6
                    go_wp2_with fail
                    with_reducible refine HSM.out.mono ?_
                    rintro e w8 ⟨rfl, n8, rfl⟩
                    have H8 := Lib.hid (H7.out.later ((Below.refl _ _).drewN n8))
                    generalize w7.drewN n8 = w8 at *
                    have K1 := Lib.hid H8.out.count.1
                    clear HSM H7
                    go_wp2_with fail
                    with_reducible refine K1.out.mono ?_
                    rintro e w9 ⟨rfl, rfl⟩
                    go_wp2_with fail
                    go_roundw
                    case rel =>
                      first
                        | exact ⟨i + 1, sb7, D7, S7, _, _, _, _, U7, by go_num, HIL.out, rfl, rfl, by go_num, HNI.out, HRL.out, H8.out⟩
                        | ((repeat apply Exists.intro); exact ⟨⟨i + 1, sb7, D7, S7, _, _, _, _, U7, by go_num, HIL.out, rfl, rfl, by go_num, HNI.out, HRL.out, H8.out⟩, rfl⟩)
                    case measure => have := HIL.out; simp [intOf]; omega
                · have o1 : ¬ (i : Int) < (op.length : Int) := by omega
                  clear hoi HB6
                  go_wp2_with fail
                  go_roundw
                  case rel =>
                    first
                      | exact ⟨i + 1, sb, D3, S3, _, _, _, _, U3, by go_num, HIL.out, rfl, rfl, by go_num, HNI.out, HRL.out, H6.out⟩
                      | ((repeat apply Exists.intro); exact ⟨⟨i + 1, sb, D3, S3, _, _, _, _, U3, by go_num, HIL.out, rfl, rfl, by go_num, HNI.out, HRL.out, H6.out⟩, rfl⟩)
                  case measure => have := HIL.out; simp [intOf]; omega
            · have u1 : ¬ (i : Int) < (sv.length : Int) := by omega
              clear hsi
              have HA := Lib.hid (H.out.append HL.out x hx3 (by have := HCO.out; omega))
              clear HB
              go_wp2_with fail
              with_reducible refine HA.out.mono ?_
              rintro e w3 ⟨rfl, D3, S3, U3, a1, a2, a3, a4⟩
              have hcw3 : w3.cell? ⟨bs, os + i, none⟩ = some (.string (B x)) := (a1.below.cell (p := ⟨bs, os + i, none⟩) hbs).trans HC.out
              have hbw3 : bs < w3.heap.size := Nat.lt_of_lt_of_le hbs a1.below.size
              obtain ⟨v5, w5, hra, hx5, hp5⟩ := append_put a1 a4 x (by omega)
              obtain ⟨pv, cv, rfl, -⟩ := a4.arg
              obtain ⟨p5, c5, rfl, -⟩ := hp5.arg
              have HRA := Lib.hid hra
              have H4 := Lib.hid (show Sv w w5 b sb (.slice p5 (rs ++ [x]).length c5) D3 S3 t (rs ++ [x]) s n (8 * weight (l.take i) + (8 + x.length)) U3 from ⟨hx5, a2, a3, hp5⟩)
              have HRL := Lib.hid (show (rs ++ [x]).length ≤ i + 1 by rw [List.length_append]; simp; omega)
              have HNI := Lib.hid (show n ≤ i + 1 by omega)
              have hrl6 : (rs ++ [x]).length ≤ 1000 := by rw [List.length_append]; simp; omega
              generalize rs ++ [x] = rs5 at *
              clear a1 a2 a3 a4 hra hx5 hp5 HA H
              go_wp2_with (at_builtin; refine wpList_append_run2 rfl _ _ _ _ rfl rfl rfl HRA.out ?_)
              clear hcw3 hbw3 HRA
              obtain ⟨k1, k2, k3⟩ := H4.out.count
              have K1 := Lib.hid k1
              have K2 := Lib.hid k2
              have K3 := Lib.hid k3
              clear k1 k2 k3
              go_wp2_with fail
              with_reducible refine K1.out.mono ?_
              rintro e w6 ⟨rfl, rfl⟩
              go_wp2_with fail
              with_reducible refine K2.out.mono ?_
              rintro e w6 ⟨rfl, rfl⟩
              go_wp2_with fail
              with_reducible refine K3.out.mono ?_
              rintro e w6 ⟨pn, kn, cn, rfl, hkn, hb6⟩
              have hkn2 : ¬ (2 : Int) < (kn : Int) := by omega
              have H6 := Lib.hid ((H4.out.later hb6).le HCO.out.1)
              have HB6 := (H4.out.later hb6).sx.below
              clear hb6 K1 K2 K3 H4 hkn
              by_cases hoi : i < op.length
              · obtain ⟨bo, oo, rfl, hbo, hco⟩ := HOP.out i hoi
                have o1 : (i : Int) < (op.length : Int) := by omega
                have hco2 : w6.cell? ⟨bo, oo + i, none⟩ = some (.bool op[i]) := (HB6.cell (p := ⟨bo, oo + i, none⟩) hbo).trans hco
                generalize op[i] = ob at *
                clear hco hoi
                cases ob
                · clear HB6
                  go_wp2_with fail
                  go_roundw
                  case rel =>
                    first
                      | exact ⟨i + 1, sb, D3, S3, _, _, _, _, U3, by go_num, HIL.out, rfl, rfl, by go_num, HNI.out, HRL.out, H6.out⟩
                      | ((repeat apply Exists.intro); exact ⟨⟨i + 1, sb, D3, S3, _, _, _, _, U3, by go_num, HIL.out, rfl, rfl, by go_num, HNI.out, HRL.out, H6.out⟩, rfl⟩)
                  case measure => have := HIL.out; simp [intOf]; omega
                · clear HB6
                  have HO := Lib.hid (H6.out.open_ HL.out)
                  go_wp2_with fail
                  with_reducible refine HO.out.mono ?_
                  rintro e w7 ⟨sb7, p7, c7, D7, S7, U7, s7, rfl, h7, hr7⟩
                  have H7 := Lib.hid h7
                  have HSM := Lib.hid (Same9_f p7 _ _ _ c7 c5 w7 (by unfold maxLen; omega) (by unfold maxLen; omega) hr7 h7.row)
                  rw [decide_eq_true rfl] at HSM
                  skip
                  clear h7 hr7 HO H6
                  go_wp2_with fail
                  with_reducible refine HSM.out.mono ?_
                  rintro e w8 ⟨rfl, n8, rfl⟩
                  have H8 := Lib.hid (H7.out.later ((Below.refl _ _).drewN n8))
                  generalize w7.drewN n8 = w8 at *
                  have K1 := Lib.hid H8.out.count.1
                  clear HSM H7
                  go_wp2_with fail
                  with_reducible refine K1.out.mono ?_
                  rintro e w9 ⟨rfl, rfl⟩
                  go_wp2_with fail
                  go_roundw
                  case rel =>
                    first
                      | exact ⟨i + 1, sb7, D7, S7, _, _, _, _, U7, by go_num, HIL.out, rfl, rfl, by go_num, HNI.out, HRL.out, H8.out⟩
                      | ((repeat apply Exists.intro); exact ⟨⟨i + 1, sb7, D7, S7, _, _, _, _, U7, by go_num, HIL.out, rfl, rfl, by go_num, HNI.out, HRL.out, H8.out⟩, rfl⟩)
                  case measure => have := HIL.out; simp [intOf]; omega
              · have o1 : ¬ (i : Int) < (op.length : Int) := by omega
                clear hoi HB6
                go_wp2_with fail
                go_roundw
                case rel =>
                  first
                    | exact ⟨i + 1, sb, D3, S3, _, _, _, _, U3, by go_num, HIL.out, rfl, rfl, by go_num, HNI.out, HRL.out, H6.out⟩
                    | ((repeat apply Exists.intro); exact ⟨⟨i + 1, sb, D3, S3, _, _, _, _, U3, by go_num, HIL.out, rfl, rfl, by go_num, HNI.out, HRL.out, H6.out⟩, rfl⟩)
                case measure => have := HIL.out; simp [intOf]; omega
          · have t2 : ¬ (i : Int) < (l.length : Int) := by omega
            have HBW := Lib.hid HB
            clear hsv2 HB H
            go_wp2_with fail
            with_reducible refine (SWorks_f _ (HL.out.next HBW.out)).mono ?_
            rintro e w8 ⟨rfl, hb8⟩
            have HB8 := Lib.hid (HBW.out.trans (hb8.mono HBW.out.size))
            clear hb8
            go_wp2
            go_ret
            exact ⟨rfl, HB8.out⟩
end Go.Proofs.YtmejdcnnpenaaaaGreatDoor.St
