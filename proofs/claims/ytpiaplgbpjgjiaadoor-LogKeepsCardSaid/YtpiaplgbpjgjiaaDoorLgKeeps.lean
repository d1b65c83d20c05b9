/-
  Logs (layer 8): the statement LogKeeps, walked. Conditions: the arguments lie in memory and are within the reach; the sum's table is laid.
-/
import Derived.Test.YtpiaplgbpjgjiaaDoorLgKeepsM
import Derived.Test.YtpiaplgbpjgjiaaDoorLgRounds
open Go Go.RowKit
namespace Go.Proofs.YtpiaplgbpjgjiaaDoor.Lg
open Base Mp Dk Frame

def wsum (rs : List (List Key)) : Nat := (rs.map weight).sum
theorem wsum_succ (rs : List (List Key)) (i : Nat) (h : i < rs.length) : wsum (rs.take (i + 1)) = wsum (rs.take i) + weight rs[i] := by
  unfold wsum
  rw [List.take_succ_eq_append_getElem h, List.map_append, List.sum_append]
  simp
theorem wsum_mem {rs : List (List Key)} {l : List Key} (h : l ∈ rs) : weight l ≤ wsum rs := mem_le_sum (List.mem_map.2 ⟨l, h, rfl⟩)
theorem weight_len (l : List Key) : l.length ≤ weight l := by
  induction l with
  | nil => simp [weight]
  | cons a r ih =>
    have e : weight (a :: r) = 1 + a.length + weight r := by unfold weight; simp
    rw [e, List.length_cons]; omega
theorem DX.mineb {w0 w : World} {b : Nat} {D : DiskD} {T : Nat → Prop} (h : DX w0 w b D T) : T b := by
  obtain ⟨_, ⟨tag, blk, bm, hd⟩, _⟩ := h
  exact hd.mineb
theorem PutRow.lb {w0 w : World} {v : Value} {rs : List Key} {T : Nat → Prop} {lb lb2 : Nat} (h : PutRow w0 w v rs T lb) (h2 : ∀ k, v.ownBlock = some k → k ≠ lb2) : PutRow w0 w v rs T lb2 := ⟨h.own, fun k hk => ⟨(h.apart k hk).1, h2 k hk⟩⟩
theorem mid_size {w0 w : World} {b lb : Nat} {D : DiskD} {L : LogD} {T : Nat → Prop} {put : List Key} {sure : Nat} (hx : LX w0 w b lb D L T) (h : Mid D L put sure) : L.size ≤ 65536 := by
  obtain ⟨s, fu, ca, rfl, _, _⟩ := h.disk
  have hfi := hx.dx.fine
  have h1 := total_mem (mem_of_look (look_one ⟨puts put, s, false⟩ fu ca))
  have h2 := hfi.fits
  rw [h.size]
  exact Nat.le_trans h1 h2
theorem ahead_room {D : DiskD} {put : List Key} {sure : Nat} (h : Ahead D put sure) : D.room = 65536 := by
  obtain ⟨o, fu, ca, rfl, _⟩ := h.disk
  rfl
/-- What stands behind the records, ahead of the crash. -/
structure Done_ (w0 w : World) (b : Nat) (D : DiskD) (T : Nat → Prop) (v : Value) (put : List Key) (sure : Nat) : Prop where
  dx : DX w0 w b D T
  next : ∀ keep, Ahead (crashD D keep) put sure
  row : PutRow w0 w v put T b
theorem Done_.crash {w0 w : World} {b : Nat} {D : DiskD} {T : Nat → Prop} {v : Value} {put : List Key} {sure : Nat} (h : Done_ w0 w b D T v put sure) (x : Int) (hx : -9223372036854775808 ≤ x ∧ x ≤ 9223372036854775807) :
    Calls Tryd.prog 22 #[.pointer (some ⟨b, 0, none⟩), .slice (some ⟨w.heap.size, 0, none⟩) 1 1] (w.alloc (.cells #[.int .i64 x] 3)) fun e w' => e = .returned (.int .i64 0) ∧ ∃ D' T', DX w0 w' b D' T' ∧ Ahead D' put sure ∧ PutRow w0 w' v put T' b := by
  have hal : Below w.heap.size w (w.alloc (.cells #[.int .i64 x] 3)) := (Below.refl _ _).alloc (Nat.le_refl _) _
  have hc := cells_made w #[.int .i64 x] 3
  refine ((h.dx.later hal).op (Crash_f (h.dx.later hal).dk (some ⟨w.heap.size, 0, none⟩) [x] 1 (fun j hj => ⟨w.heap.size, 0, rfl, by
    obtain rfl : j = 0 := by simpa using hj
    exact (hc 0 (by simp)).1⟩) (fun y hy => by rw [List.mem_singleton.1 hy]; exact hx) (Nat.le_refl _) (by decide) (fun a ha ht => by
    injection ha with ha
    rw [← ha] at ht
    exact absurd (h.dx.old _ ht) (Nat.lt_irrefl _)))).mono ?_
  rintro e w' ⟨he, h1, h2⟩
  exact ⟨he, _, _, h1, h.next _, (h.row.later hal).disk h2⟩
theorem Done_.crash0 {w0 w : World} {b : Nat} {D : DiskD} {T : Nat → Prop} {v : Value} {put : List Key} {sure : Nat} (h : Done_ w0 w b D T v put sure) :
    Calls Tryd.prog 22 #[.pointer (some ⟨b, 0, none⟩), .slice none 0 0] w fun e w' => e = .returned (.int .i64 0) ∧ ∃ D' T', DX w0 w' b D' T' ∧ Ahead D' put sure ∧ PutRow w0 w' v put T' b := by
  refine (h.dx.op (Crash_f h.dx.dk none [] 0 (fun j hj => by simp at hj) (fun x hx => by simp at hx) (Nat.le_refl _) (by decide) (fun a ha => by cases ha))).mono ?_
  rintro e w' ⟨he, h1, h2⟩
  exact ⟨he, _, _, h1, h.next _, h.row.disk h2⟩
theorem ahead_fuse_f {w0 w : World} {b : Nat} {D : DiskD} {T : Nat → Prop} {v : Value} {put : List Key} {sure : Nat} (hx : DX w0 w b D T) (ha : Ahead D put sure) (hp : PutRow w0 w v put T b) (n : Nat) (hn : n < 256) :
    Calls Tryd.prog 23 #[.pointer (some ⟨b, 0, none⟩), .int .i64 (n : Int)] w fun e w' => e = .returned (.int .i64 0) ∧ ∃ D' T', DX w0 w' b D' T' ∧ Ahead D' put sure ∧ PutRow w0 w' v put T' b := by
  obtain ⟨D', he, ha'⟩ := ahead_fuse ha n
  have h := hx.op (Fuse_f hx.dk (n : Int) (by omega))
  rw [he] at h
  refine h.mono ?_
  rintro e w' ⟨he, h1, h2⟩
  exact ⟨he, D', _, h1, ha', hp.disk h2⟩
set_option maxRecDepth 100000 in
set_option maxHeartbeats 16000000 in
theorem LogKeeps_calls (w : World) (p q kp : Option Addr) (cap qc kc : Nat) (rs : List (List Key)) (fz : List UInt8) (keep : List Int) (hl : rs.length ≤ maxLen) (hr : RoundsArg w p rs) (hrl : ∀ l ∈ rs, l.length ≤ maxLen) (hz : ∀ l ∈ rs, ∀ t ∈ l, t.length ≤ 140737488351232) (hfl : fz.length ≤ maxLen) (hf : BytesArg w q fz) (hkl : keep.length ≤ maxLen) (hk : IntsAt w kp keep ∧ IntsIn keep) (hT : Crc.TabOk w) :
    Calls Tryd.prog 6 #[.slice p rs.length cap, .slice q fz.length qc, .slice kp keep.length kc] w fun e w' => e = .returned (.bool true) ∧ Below w.heap.size w w' := by
  have HR := Lib.hid hr
  have HRL := Lib.hid hrl
  have HZ := Lib.hid hz
  have HF := Lib.hid hf
  have HK := Lib.hid hk
  have HT := Lib.hid hT
  unfold maxLen at hl hfl hkl
  clear hr hrl hz hf hk hT
  go_enter Tryd.func6, Tryd.ntmps6
  go_wp2_with fail
  go_loopw [7, 8] (fun v u wr => ∃ i : Nat, v = .int .i64 ((wsum (rs.take i) : Nat) : Int) ∧ u = .int .i64 (i : Int) ∧ i ≤ rs.length ∧ i ≤ 50 ∧ (∀ l ∈ rs.take i, l.length ≤ 60) ∧ wsum (rs.take i) ≤ i * 8444249301319680 ∧ w = wr) (fun _ u _ => rs.length - (intOf u).toNat)
  case atStart => exact ⟨0, by simp [wsum], rfl, Nat.zero_le _, by omega, fun l hl => by simp at hl, by simp [wsum], rfl⟩
  case round =>
    obtain ⟨i, rfl, rfl, hi, hi5, h60, hsum, rfl⟩ := hrel
    have H60 := Lib.hid h60
    clear h60
    by_cases hin : i < rs.length ∧ i < 50
    · obtain ⟨b0, o0, pj, cj, rfl, _, hc, hrow⟩ := HR.out i hin.1
      have HROW := Lib.hid hrow
      have HS := Lib.hid (wsum_succ rs i hin.1)
      have HZI := Lib.hid (HZ.out _ (List.getElem_mem hin.1))
      have HLI := Lib.hid (show ∀ z ∈ rs.take (i + 1), z ∈ rs.take i ∨ z = rs[i]'hin.1 from fun z hz => by
        rw [List.take_succ_eq_append_getElem hin.1] at hz
        rcases List.mem_append.1 hz with hz | hz
        · exact .inl hz
        · exact .inr (List.mem_singleton.1 hz))
      have hlm := HRL.out _ (List.getElem_mem hin.1)
      unfold maxLen at hlm
      have HI := Lib.hid hin
      have t1 : (i : Int) < (rs.length : Int) := by omega
      have t2 : (i : Int) < 50 := by omega
      have t3 : 0 ≤ (i : Int) := by omega
      clear hrow
      generalize rs[i] = l at *
      clear hin
      generalize hhn : wsum (rs.take i) = hn at *
      have HHN := Lib.hid hhn
      have HSUM := Lib.hid hsum
      have s1 : hn ≤ 422212465065984000 := Nat.le_trans hsum (by omega)
      clear hhn hsum
      by_cases hl60 : 60 < l.length
      · have hl6 : (60 : Int) < (l.length : Int) := by omega
        go_wp2_with fail
        with_reducible refine (LWorks_f _ HT.out).mono ?_
        rintro e w2 ⟨rfl, hb2⟩
        have HB2 := Lib.hid hb2
        clear hb2
        go_wp2
        go_ret
        exact ⟨rfl, HB2.out⟩
      · have hl6 : ¬ (60 : Int) < (l.length : Int) := by omega
        go_wp2_with fail
        go_loopw [7, 9] (fun v u wr => ∃ k : Nat, v = .int .i64 ((hn + weight (l.take k) : Nat) : Int) ∧ u = .int .i64 (k : Int) ∧ k ≤ l.length ∧ weight (l.take k) ≤ k * 140737488351233 ∧ w = wr) (fun _ u _ => l.length - (intOf u).toNat)
        case atStart => exact ⟨0, by simp [weight], rfl, Nat.zero_le _, by simp [weight], rfl⟩
        case round =>
          obtain ⟨k, rfl, rfl, hk, hws, rfl⟩ := hrel
          by_cases hkl : k < l.length
          · obtain ⟨bs, os, rfl, hbs, hcs⟩ := HROW.out k (by rw [strs_length]; exact hkl)
            rw [strs_at _ _ hkl] at hcs
            have t4 : (k : Int) < (l.length : Int) := by omega
            have t5 : 0 ≤ (k : Int) := by omega
            have HWS := Lib.hid (weight_succ l k hkl)
            have hzk := HZI.out _ (List.getElem_mem hkl)
            generalize l[k] = x at *
            have s2 : weight (l.take k) ≤ 8444249301319680 := Nat.le_trans hws (by omega)
            have HW2 := Lib.hid hws
            generalize weight (l.take k) = wk at *
            clear hws
            go_wp2_with fail
            go_roundw
            case rel =>
              first
                | exact ⟨k + 1, by rw [HWS.out]; go_num, by go_num, hkl, by rw [HWS.out]; have := HW2.out; omega, by first | rfl | trivial⟩
                | ((repeat apply Exists.intro); exact ⟨⟨k + 1, by rw [HWS.out]; go_num, by go_num, hkl, by rw [HWS.out]; have := HW2.out; omega, by first | rfl | trivial⟩, rfl⟩)
            case measure => simp [intOf]; omega
          · obtain rfl : k = l.length := by omega
            rw [List.take_length] at hws ⊢
            have t4 : ¬ (l.length : Int) < (l.length : Int) := by omega
            have HW2 := Lib.hid hws
            generalize weight l = wk at *
            clear hws
            go_wp2_with fail
            go_roundw
            case rel =>
              first
                | exact ⟨i + 1, by rw [HS.out], by go_num, HI.out.1, HI.out.2, fun z hz => (HLI.out z hz).elim (H60.out z) (fun e => by rw [e]; omega), by rw [HS.out]; have := HSUM.out; have := HW2.out; omega, by first | rfl | trivial⟩
                | ((repeat apply Exists.intro); exact ⟨⟨i + 1, by rw [HS.out], by go_num, HI.out.1, HI.out.2, fun z hz => (HLI.out z hz).elim (H60.out z) (fun e => by rw [e]; omega), by rw [HS.out]; have := HSUM.out; have := HW2.out; omega, by first | rfl | trivial⟩, rfl⟩)
            case measure => have := HI.out; simp [intOf]; omega
    · by_cases hv : 12 < rs.length ∨ (rs.length ≤ 12 ∧ (4096 < wsum (rs.take i) ∨ (wsum (rs.take i) ≤ 4096 ∧ (30 < fz.length ∨ (fz.length ≤ 30 ∧ 60 < keep.length)))))
      · have s1 : wsum (rs.take i) ≤ 422212465065984000 := Nat.le_trans hsum (by omega)
        generalize wsum (rs.take i) = hn at *
        have hguard : ¬ (i : Int) < (rs.length : Int) ∨ ((i : Int) < (rs.length : Int) ∧ ¬ (i : Int) < 50) := by omega
        have hv2 : (12 : Int) < (rs.length : Int) ∨ (¬ (12 : Int) < (rs.length : Int) ∧ (4096 : Int) < ((hn : Nat) : Int)) ∨ (¬ (12 : Int) < (rs.length : Int) ∧ ¬ (4096 : Int) < ((hn : Nat) : Int) ∧ (30 : Int) < (fz.length : Int)) ∨ (¬ (12 : Int) < (rs.length : Int) ∧ ¬ (4096 : Int) < ((hn : Nat) : Int) ∧ ¬ (30 : Int) < (fz.length : Int) ∧ (60 : Int) < (keep.length : Int)) := by omega
        clear hin hv hsum
        rcases hguard with hg1 | ⟨hg1, hg2⟩ <;> rcases hv2 with hv3 | ⟨hv3, hv4⟩ | ⟨hv3, hv4, hv5⟩ | ⟨hv3, hv4, hv5, hv6⟩
        all_goals first
          | (exfalso; omega)
          | (go_wp2_with fail
             with_reducible refine (LWorks_f _ HT.out).mono ?_
             rintro e w2 ⟨rfl, hb2⟩
             have HB2 := Lib.hid hb2
             clear hb2
             go_wp2
             go_ret
             exact ⟨rfl, HB2.out⟩)
      · have hll : rs.length ≤ 12 := by omega
        obtain rfl : i = rs.length := by omega
        rw [List.take_length] at hv hsum H60 ⊢
        have hwt : wsum rs ≤ 4096 := by omega
        have hf30 : fz.length ≤ 30 := by omega
        have hk60 : keep.length ≤ 60 := by omega
        have v1 : ¬ (12 : Int) < (rs.length : Int) := by omega
        have v2 : ¬ (4096 : Int) < ((wsum rs : Nat) : Int) := by omega
        have v3 : ¬ (30 : Int) < (fz.length : Int) := by omega
        have v4 : ¬ (60 : Int) < (keep.length : Int) := by omega
        have t1 : ¬ (rs.length : Int) < (rs.length : Int) := by omega
        have HSH := Lib.hid (show ∀ l ∈ rs, ∀ t ∈ l, t.length ≤ 4096 from fun l hl t ht => by have := mem_weight ht; have := wsum_mem hl; omega)
        have HN := Lib.hid (show Calls Tryd.prog 15 #[.int .i64 65536] w fun e w' => ∃ b, e = .returned (.tuple #[.pointer (some ⟨b, 0, none⟩), .int .i64 0]) ∧ DW w w' b (DL0 65536) from DW.new (r := 65536) (by decide) (Below.refl w.heap.size w))
        clear hin hv hsum hwt hf30 hk60
        generalize wsum rs = wl at *
        go_wp2_with fail
        with_reducible refine HN.out.mono ?_
        rintro e w1 ⟨b, rfl, h1⟩
        obtain ⟨T1, h1⟩ := dx_of h1
        have H1 := Lib.hid h1
        clear h1 HN
        go_wp2_with fail
        go_loopw [12, 13, 14] (fun v sv u wr => ∃ (i : Nat) (D : DiskD) (T : Nat → Prop) (put : List Key) (sure : Nat), u = .int .i64 (i : Int) ∧ i ≤ rs.length ∧ sv = .int .i64 (sure : Int) ∧ DX w wr b D T ∧ Ahead D put sure ∧ PutRow w wr v put T b ∧ put.length ≤ 60 * i) (fun _ _ u _ => rs.length - (intOf u).toNat)
        case atStart => exact ⟨0, _, _, [], 0, rfl, Nat.zero_le _, rfl, H1.out, ahead_start, PutRow.none _ _ _ _, Nat.zero_le _⟩
        case round =>
          obtain ⟨i, D, T, put, sure, rfl, hi, rfl, hx, ha, hp, hpl⟩ := hrel
          by_cases hil : i < rs.length
          · have HX := Lib.hid hx
            have HAH := Lib.hid ha
            have HP := Lib.hid hp
            have hsl := ha.le
            have t2 : (i : Int) < (rs.length : Int) := by omega
            have t3 : 0 ≤ (i : Int) := by omega
            obtain ⟨b0, o0, pj, cj, rfl, hb0, hc, hrow⟩ := HR.out i hil
            have HROW := Lib.hid hrow
            have hl60 := H60.out _ (List.getElem_mem hil)
            have HSI := Lib.hid (HSH.out _ (List.getElem_mem hil))
            have HC := Lib.hid hc
            have HO := Lib.hid (LOpen_f hx HT.out nA (by decide) (by rw [ahead_room ha]; decide))
            clear hrow hc hx ha hp
            generalize rs[i] = l at *
            obtain ⟨pv0, cv0, rfl, -⟩ := HP.out.arg
            rcases ahead_open HAH.out with ⟨D2, q1, hfe⟩ | ⟨D2, L2, j, q1, hj1, hj2, hmid⟩
            · rw [q1] at HO
              have HO2 := Lib.hid (show Calls Tryd.prog 9 #[.pointer (some ⟨b, 0, none⟩), .string ⟨#[97]⟩] wr fun e w' => e = .returned (.tuple #[.pointer none, .slice none 0 0, .int .i64 70]) ∧ ∃ T', Done_ w w' b D2 T' (.slice pv0 put.length cv0) put sure from by
                refine HO.out.mono ?_
                rintro e w' ⟨T', a1, a2, a3, ⟨_, _, a4⟩ | ⟨_, _, _, _, a4, _⟩⟩
                · have hrow2 := HP.out.disk a3
                  refine ⟨a4, T', a2, fun kk => fell_crash hfe kk, ⟨hrow2.own, fun k hk => ⟨fun ht => ?_, (hrow2.apart k hk).2⟩⟩⟩
                  rcases a1 k ht with h | h
                  · exact (HP.out.apart k hk).1 h
                  · have := (HP.out.lt k hk).2; omega
                · cases a4)
              have HPL := Lib.hid (show put.length ≤ 60 * (i + 1) by omega)
              clear q1 hfe HO HX HAH HP
              go_wp2_with fail
              with_reducible refine HO2.out.mono ?_
              rintro e w2 ⟨rfl, T2, h2⟩
              have HDN := Lib.hid h2
              clear h2 HO2
              by_cases hki : i < keep.length
              · have ki1 : (i : Int) < (keep.length : Int) := by omega
                obtain ⟨gk, ok, rfl, hck⟩ := HK.out.1 i hki
                have hgk : gk < w.heap.size := lt_of_cell hck
                have hckw : w2.cell? ⟨gk, ok + i, none⟩ = some (.int .i64 keep[i]) := (HDN.out.dx.below.cell (p := ⟨gk, ok + i, none⟩) hgk).trans hck
                have HCR := Lib.hid (HDN.out.crash keep[i] (HK.out.2 _ (List.getElem_mem hki)))
                clear hck
                generalize keep[i] = kx at *
                go_wp2_with fail
                with_reducible refine HCR.out.mono ?_
                rintro e9 w9 ⟨rfl, D9, T9, h9, a9, p9⟩
                have H9 := Lib.hid (And.intro h9 (And.intro a9 p9))
                clear h9 a9 p9 HCR HDN hckw
                by_cases hfi : i < fz.length
                · have fi1 : (i : Int) < (fz.length : Int) := by omega
                  obtain ⟨gf, of_, rfl, hgf, hcf⟩ := HF.out i hfi
                  have hcfw : w9.cell? ⟨gf, of_ + i, none⟩ = some (.int .u8 (fz[i].toNat : Int)) := (H9.out.1.below.cell (p := ⟨gf, of_ + i, none⟩) hgf).trans hcf
                  have hfb : fz[i].toNat < 256 := Crc.u8_lt _
                  have HFU := Lib.hid (ahead_fuse_f H9.out.1 H9.out.2.1 H9.out.2.2 fz[i].toNat hfb)
                  clear hcf
                  generalize fz[i].toNat = fx at *
                  go_wp2_with fail
                  with_reducible refine HFU.out.mono ?_
                  rintro e8 wz ⟨rfl, D8, T8, h8, a8, p8⟩
                  have H8 := Lib.hid (And.intro h8 (And.intro a8 p8))
                  clear h8 a8 p8 HFU H9 hcfw
                  go_wp2_with fail
                  go_roundw
                  case rel =>
                    first
                      | exact ⟨i + 1, D8, T8, _, _, by go_num, hil, rfl, H8.out.1, H8.out.2.1, H8.out.2.2, HPL.out⟩
                      | ((repeat apply Exists.intro); exact ⟨⟨i + 1, D8, T8, _, _, by go_num, hil, rfl, H8.out.1, H8.out.2.1, H8.out.2.2, HPL.out⟩, rfl⟩)
                  case measure => simp [intOf]; omega
                · have fi1 : ¬ (i : Int) < (fz.length : Int) := by omega
                  go_wp2_with fail
                  go_roundw
                  case rel =>
                    first
                      | exact ⟨i + 1, D9, T9, _, _, by go_num, hil, rfl, H9.out.1, H9.out.2.1, H9.out.2.2, HPL.out⟩
                      | ((repeat apply Exists.intro); exact ⟨⟨i + 1, D9, T9, _, _, by go_num, hil, rfl, H9.out.1, H9.out.2.1, H9.out.2.2, HPL.out⟩, rfl⟩)
                  case measure => simp [intOf]; omega
              · have ki1 : ¬ (i : Int) < (keep.length : Int) := by omega
                have HCR := Lib.hid HDN.out.crash0
                go_wp2_with fail
                with_reducible refine HCR.out.mono ?_
                rintro e9 w9 ⟨rfl, D9, T9, h9, a9, p9⟩
                have H9 := Lib.hid (And.intro h9 (And.intro a9 p9))
                clear h9 a9 p9 HCR HDN
                by_cases hfi : i < fz.length
                · have fi1 : (i : Int) < (fz.length : Int) := by omega
                  obtain ⟨gf, of_, rfl, hgf, hcf⟩ := HF.out i hfi
                  have hcfw : w9.cell? ⟨gf, of_ + i, none⟩ = some (.int .u8 (fz[i].toNat : Int)) := (H9.out.1.below.cell (p := ⟨gf, of_ + i, none⟩) hgf).trans hcf
                  have hfb : fz[i].toNat < 256 := Crc.u8_lt _
                  have HFU := Lib.hid (ahead_fuse_f H9.out.1 H9.out.2.1 H9.out.2.2 fz[i].toNat hfb)
                  clear hcf
                  generalize fz[i].toNat = fx at *
                  go_wp2_with fail
                  with_reducible refine HFU.out.mono ?_
                  rintro e8 wz ⟨rfl, D8, T8, h8, a8, p8⟩
                  have H8 := Lib.hid (And.intro h8 (And.intro a8 p8))
                  clear h8 a8 p8 HFU H9 hcfw
                  go_wp2_with fail
                  go_roundw
                  case rel =>
                    first
                      | exact ⟨i + 1, D8, T8, _, _, by go_num, hil, rfl, H8.out.1, H8.out.2.1, H8.out.2.2, HPL.out⟩
                      | ((repeat apply Exists.intro); exact ⟨⟨i + 1, D8, T8, _, _, by go_num, hil, rfl, H8.out.1, H8.out.2.1, H8.out.2.2, HPL.out⟩, rfl⟩)
                  case measure => simp [intOf]; omega
                · have fi1 : ¬ (i : Int) < (fz.length : Int) := by omega
                  go_wp2_with fail
                  go_roundw
                  case rel =>
                    first
                      | exact ⟨i + 1, D9, T9, _, _, by go_num, hil, rfl, H9.out.1, H9.out.2.1, H9.out.2.2, HPL.out⟩
                      | ((repeat apply Exists.intro); exact ⟨⟨i + 1, D9, T9, _, _, by go_num, hil, rfl, H9.out.1, H9.out.2.1, H9.out.2.2, HPL.out⟩, rfl⟩)
                  case measure => simp [intOf]; omega
            · rw [q1] at HO
              have hjl : (put.take j).length = j := by rw [List.length_take]; omega
              have HO2 := Lib.hid (show Calls Tryd.prog 9 #[.pointer (some ⟨b, 0, none⟩), .string ⟨#[97]⟩] wr fun e w' => ∃ lb pa ca T', e = .returned (.tuple #[.pointer (some ⟨lb, 0, none⟩), .slice pa j ca, .int .i64 0]) ∧ LX w w' b lb D2 L2 T' ∧ RowArg w' pa (strs (put.take j)) ∧ PutRow w w' (.slice pv0 put.length cv0) put T' lb from by
                refine HO.out.mono ?_
                rintro e w' ⟨T', a1, a2, a3, ⟨a4, _⟩ | ⟨L3, rs3, lb, v, a4, a5, a6, a7, a8, a9, a10, a11⟩⟩
                · cases a4
                · simp only [Option.some.injEq, Prod.mk.injEq] at a4
                  obtain ⟨rfl, rfl⟩ := a4
                  obtain ⟨pa, ca, rfl, hra, -, -⟩ := RowArg.of_own a10
                  have hrow2 := HP.out.disk a3
                  refine ⟨lb, pa, ca, T', ?_, ⟨a2, a7, Nat.le_trans HX.out.below.size a8, a9⟩, hra, ⟨hrow2.own, fun k hk => ⟨fun ht => ?_, fun e => ?_⟩⟩⟩
                  · rw [hjl] at a6; exact a6
                  · rcases a1 k ht with h | h
                    · exact (HP.out.apart k hk).1 h
                    · have := (HP.out.lt k hk).2; omega
                  · have := (HP.out.lt k hk).2; omega)
              have HMID := Lib.hid hmid
              have HJL := Lib.hid hjl
              have g1 : ¬ (j : Int) < (sure : Int) := by omega
              have g2 : ¬ (put.length : Int) < (j : Int) := by omega
              have hcap0 : put.length ≤ cv0 := by
                obtain ⟨_, ⟨e, _⟩ | ⟨_, _, _, e, _, _, hnc, _⟩⟩ := HP.out.own
                · injection e with _ e1 e2; omega
                · injection e with _ _ e2; omega
              have g3 : (j : Int) ≤ (cv0 : Int) := by omega
              have HAHS := Lib.hid HAH.out.short
              clear q1 HO HX HAH HP hmid hjl hcap0
              go_wp2_with fail
              with_reducible refine HO2.out.mono ?_
              rintro e w2 ⟨lb, pa, ca, T2, rfl, h2, hra, hp2⟩
              have HL2 := Lib.hid h2
              have HRA := Lib.hid hra
              have HP2 := Lib.hid hp2
              have HSM := Lib.hid (show Calls Tryd.prog 18 #[.slice pa j ca, .slice pv0 j cv0] w2 fun e w' => e = .returned (.bool true) ∧ ∃ n, w' = w2.drewN n from by
                have h := Same_f pa pv0 (put.take j) (put.take j) ca cv0 w2 (by rw [HJL.out]; unfold maxLen; omega) (by rw [HJL.out]; unfold maxLen; omega) hra (by
                  obtain ⟨p7, c7, e7, h7⟩ := hp2.arg
                  injection e7 with e7 _ _
                  rw [e7]
                  have h8 := RowArg.take h7 j
                  have e1 : (strs put).take j = strs (put.take j) := by unfold strs; rw [List.map_take]
                  rw [e1] at h8
                  exact h8)
                rw [decide_eq_true rfl, HJL.out] at h
                exact h)
              clear h2 hra hp2 HO2
              go_wp2_with fail
              with_reducible refine HSM.out.mono ?_
              rintro e w3 ⟨rfl, n3, rfl⟩
              have HL3 := Lib.hid (HL2.out.later ((Below.refl _ w2).drewN n3))
              have hr3 : RowArg (w2.drewN n3) pa (strs (put.take j)) := HRA.out
              clear HSM HL2 HRA HP2
              generalize w2.drewN n3 = w3 at *
              obtain ⟨pb, cb, w4, hrb, hob, hbb⟩ := append_strs w3 pa ca (put.take j) hr3 (by rw [HJL.out]; omega)
              rw [HJL.out] at hrb
              have HRB := Lib.hid hrb
              have HL4 := Lib.hid (HL3.out.later hbb)
              have HP4 := Lib.hid (show PutRow w w4 (.slice pb j cb) (put.take j) T2 lb from by
                rw [HJL.out] at hob
                refine ⟨?_, fun k hk => ?_⟩
                · rw [HJL.out]
                  exact own_lower hob HL3.out.dx.below.size
                · have := (hob.lt k hk).1
                  refine ⟨fun ht => ?_, fun e => ?_⟩
                  · have := HL3.out.dx.old k ht; omega
                  · have := HL3.out.log.lt (by omega); omega)
              clear hrb hob hbb hr3 HL3
              go_wp2_with (first | (at_builtin; refine wpList_append_run2 rfl _ _ _ _ rfl rfl rfl HRB.out ?_))
              go_loopw [12, 13, 18] (fun v sv u wt => ∃ (k : Nat) (D : DiskD) (L : LogD) (T : Nat → Prop) (pt : List Key) (su : Nat), u = .int .i64 (k : Int) ∧ k ≤ l.length ∧ sv = .int .i64 (su : Int) ∧ LX w wt b lb D L T ∧ Mid D L pt su ∧ PutRow w wt v pt T lb ∧ pt.length ≤ 60 * i + k) (fun _ _ u _ => l.length - (intOf u).toNat)
              case atStart => exact ⟨0, _, _, _, _, j, rfl, Nat.zero_le _, rfl, HL4.out, HMID.out, by rw [HJL.out] at *; exact HP4.out, by rw [HJL.out]; omega⟩
              case round =>
                obtain ⟨k, D, L, T, pt, su, rfl, hk, rfl, hx, hm, hp, hpl4⟩ := hrel
                have HPB := Lib.hid (show pt.length + 1 ≤ 1099511627776 by omega)
                have HP4L := Lib.hid hpl4
                have HX4 := Lib.hid hx
                have HM4 := Lib.hid hm
                have HP5 := Lib.hid hp
                have hcw : wr.cell? ⟨b0, o0 + i, none⟩ = some (.slice pj l.length cj) := (hx.dx.below.cell (p := ⟨b0, o0 + i, none⟩) hb0).trans HC.out
                obtain ⟨pv, cv, rfl, -⟩ := hp.arg
                by_cases hkl : k < l.length
                · have t4 : (k : Int) < (l.length : Int) := by omega
                  have t5 : 0 ≤ (k : Int) := by omega
                  obtain ⟨bs, os, rfl, hbs, hcs⟩ := HROW.out k (by rw [strs_length]; exact hkl)
                  rw [strs_at _ _ hkl] at hcs
                  have hcsw : wr.cell? ⟨bs, os + k, none⟩ = some (.string (B l[k])) := (hx.dx.below.cell (p := ⟨bs, os + k, none⟩) hbs).trans hcs
                  have hsx := HSI.out _ (List.getElem_mem hkl)
                  obtain ⟨D5, L5, c5, q5, hm5⟩ := mid_put hm l[k] (by omega)
                  have HX5 := Lib.hid (hx.later ((Below.refl wr.heap.size wr).alloc (Nat.le_refl _) (.cells (strs [l[k]]).toArray 9)))
                  have HP6 := Lib.hid (hp.later ((Below.refl wr.heap.size wr).alloc (Nat.le_refl _) (.cells (strs [l[k]]).toArray 9)))
                  have HA := Lib.hid (show Calls Tryd.prog 10 #[.pointer (some ⟨lb, 0, none⟩), .slice (some ⟨wr.heap.size, 0, none⟩) 1 1] (wr.alloc (.cells #[.string (B l[k])] 9)) (LPost w (wr.alloc (.cells #[.string (B l[k])] 9)) b lb T (D5, L5, c5)) from by
                    have h := LAppend_f HX5.out HT.out (some ⟨wr.heap.size, 0, none⟩) 1 [l[k]] ⟨row_made wr _, by
                      intro t ht
                      rw [List.mem_singleton.1 ht]; omega, by rw [puts_one, put_length]; omega, Nat.le_trans (mid_size hx hm) (by decide), by rw [hm.count]; omega, by rw [hm.name]; decide⟩
                    rw [q5] at h
                    exact h)
                  have HCS := Lib.hid (And.intro hcs hbs)
                  clear q5 hx hm hp hcs HX4 HM4 HP5 HX5
                  generalize l[k] = x at *
                  go_wp2_with fail
                  with_reducible refine HA.out.mono ?_
                  rintro e5 w5 ⟨rfl, h5, k5⟩
                  simp only at h5
                  have hp5 : PutRow w w5 (.slice pv pt.length cv) pt (More T (wr.alloc (.cells #[.string (B x)] 9)) w5) lb := HP6.out.kept k5
                  clear HA HP6 k5 hcw hcsw
                  generalize More T _ w5 = T5 at h5 hp5
                  have hcW : w5.cell? ⟨b0, o0 + i, none⟩ = some (.slice (some ⟨bs, os, none⟩) l.length cj) := (h5.dx.below.cell (p := ⟨b0, o0 + i, none⟩) hb0).trans HC.out
                  have htW : w5.cell? ⟨bs, os + k, none⟩ = some (.string (B x)) := (h5.dx.below.cell (p := ⟨bs, os + k, none⟩) HCS.out.2).trans HCS.out.1
                  rcases hm5 with ⟨hc5, hm5⟩ | ⟨hc5, hm5⟩
                  · subst hc5
                    obtain ⟨v6, w6, hra6, hx6, hp6, -⟩ := append_row h5 hp5 x HPB.out
                    have HRA6 := Lib.hid hra6
                    have hlp : (pt ++ [x]).length = pt.length + 1 := by simp
                    clear hra6 h5 hp5
                    generalize pt ++ [x] = PT at *
                    obtain ⟨p6, c6, rfl, -⟩ := hp6.arg
                    have HXs := Lib.hid hx6
                    have HPs := Lib.hid hp6
                    have HMs := Lib.hid hm5
                    have HLs := Lib.hid (show PT.length ≤ 60 * i + (k + 1) by have := HP4L.out; omega)
                    have HBW := Lib.hid hx6.dx.below
                    clear hx6 hp6 hm5 hlp
                    have hcW6 : w6.cell? ⟨b0, o0 + i, none⟩ = some (.slice (some ⟨bs, os, none⟩) l.length cj) := (HBW.out.cell (p := ⟨b0, o0 + i, none⟩) hb0).trans HC.out
                    have htW6 : w6.cell? ⟨bs, os + k, none⟩ = some (.string (B x)) := (HBW.out.cell (p := ⟨bs, os + k, none⟩) HCS.out.2).trans HCS.out.1
                    by_cases h3 : x.length % 3 = 0
                    · have hm3 : (x.length : Int) % 3 = 0 := by omega
                      obtain ⟨D7, L7, c7, q7, hm7⟩ := mid_keep HMs.out
                      have HS7 := Lib.hid (show Calls Tryd.prog 11 #[.pointer (some ⟨lb, 0, none⟩)] w6 (LPost w w6 b lb T5 (D7, L7, c7)) from by
                        have h := LSync_f HXs.out (by rw [HMs.out.name]; decide)
                        rw [q7] at h
                        exact h)
                      clear q7
                      go_wp2_with (first | (at_builtin; refine wpList_append_run2 rfl _ _ _ _ rfl rfl rfl HRA6.out ?_))
                      with_reducible refine HS7.out.mono ?_
                      rintro e7 w7 ⟨rfl, h7, k7⟩
                      simp only at h7
                      have HPu := Lib.hid (HPs.out.kept k7)
                      have HXu := Lib.hid h7
                      clear h7 k7 HS7 HPs HXs htW6 hcW6
                      rcases hm7 with ⟨hc7, hm7⟩ | ⟨hc7, hm7⟩
                      · subst hc7
                        have HMu := Lib.hid hm7
                        clear hm7 HMs
                        have HSU := Lib.hid (LSure_f HXu.out.log)
                        have HCO := Lib.hid (LCount_f HXu.out.log)
                        rw [HMu.out.sur] at HSU
                        rw [HMu.out.count] at HCO
                        go_wp2_with fail
                        with_reducible refine HSU.out.mono ?_
                        rintro e8 w8 ⟨rfl, rfl⟩
                        go_wp2_with fail
                        with_reducible refine HCO.out.mono ?_
                        rintro e8 w8 ⟨rfl, rfl⟩
                        clear HSU HCO
                        go_wp2_with fail
                        go_roundw
                        case rel =>
                          first
                            | exact ⟨k + 1, _, _, _, PT, PT.length, by go_num, hkl, rfl, HXu.out, HMu.out, HPu.out, by have := HLs.out; omega⟩
                            | ((repeat apply Exists.intro); exact ⟨⟨k + 1, _, _, _, PT, PT.length, by go_num, hkl, rfl, HXu.out, HMu.out, HPu.out, by have := HLs.out; omega⟩, rfl⟩)
                        case measure => simp [intOf]; omega
                      · have hcb7 : (c7 == 0) = false := by simpa using hc7
                        have HMu := Lib.hid hm7
                        clear hm7 HMs hc7
                        have HSU := Lib.hid (LSure_f HXu.out.log)
                        have HCO := Lib.hid (LCount_f HXu.out.log)
                        rw [HMu.out.sur] at HSU
                        rw [HMu.out.count] at HCO
                        go_wp2_with fail
                        with_reducible refine HSU.out.mono ?_
                        rintro e8 w8 ⟨rfl, rfl⟩
                        go_wp2_with fail
                        with_reducible refine HCO.out.mono ?_
                        rintro e8 w8 ⟨rfl, rfl⟩
                        clear HSU HCO
                        go_wp2_with fail
                        go_roundw
                        case rel =>
                          first
                            | exact ⟨k + 1, _, _, _, PT, su, by go_num, hkl, rfl, HXu.out, HMu.out, HPu.out, by have := HLs.out; omega⟩
                            | ((repeat apply Exists.intro); exact ⟨⟨k + 1, _, _, _, PT, su, by go_num, hkl, rfl, HXu.out, HMu.out, HPu.out, by have := HLs.out; omega⟩, rfl⟩)
                        case measure => simp [intOf]; omega
                    · have h3b : x.length % 3 = 1 ∨ x.length % 3 = 2 := by omega
                      have HXu := Lib.hid HXs.out
                      have HMu := Lib.hid HMs.out
                      have HPu := Lib.hid HPs.out
                      clear HXs HMs HPs
                      rcases h3b with h3b | h3b
                      · have hm3 : (x.length : Int) % 3 = 1 := by omega
                        have HSU := Lib.hid (LSure_f HXu.out.log)
                        have HCO := Lib.hid (LCount_f HXu.out.log)
                        rw [HMu.out.sur] at HSU
                        rw [HMu.out.count] at HCO
                        go_wp2_with (first | (at_builtin; refine wpList_append_run2 rfl _ _ _ _ rfl rfl rfl HRA6.out ?_))
                        with_reducible refine HSU.out.mono ?_
                        rintro e8 w8 ⟨rfl, rfl⟩
                        go_wp2_with fail
                        with_reducible refine HCO.out.mono ?_
                        rintro e8 w8 ⟨rfl, rfl⟩
                        clear HSU HCO
                        go_wp2_with fail
                        go_roundw
                        case rel =>
                          first
                            | exact ⟨k + 1, _, _, _, PT, su, by go_num, hkl, rfl, HXu.out, HMu.out, HPu.out, by have := HLs.out; omega⟩
                            | ((repeat apply Exists.intro); exact ⟨⟨k + 1, _, _, _, PT, su, by go_num, hkl, rfl, HXu.out, HMu.out, HPu.out, by have := HLs.out; omega⟩, rfl⟩)
                        case measure => simp [intOf]; omega
                      · have hm3 : (x.length : Int) % 3 = 2 := by omega
                        have HSU := Lib.hid (LSure_f HXu.out.log)
                        have HCO := Lib.hid (LCount_f HXu.out.log)
                        rw [HMu.out.sur] at HSU
                        rw [HMu.out.count] at HCO
                        go_wp2_with (first | (at_builtin; refine wpList_append_run2 rfl _ _ _ _ rfl rfl rfl HRA6.out ?_))
                        with_reducible refine HSU.out.mono ?_
                        rintro e8 w8 ⟨rfl, rfl⟩
                        go_wp2_with fail
                        with_reducible refine HCO.out.mono ?_
                        rintro e8 w8 ⟨rfl, rfl⟩
                        clear HSU HCO
                        go_wp2_with fail
                        go_roundw
                        case rel =>
                          first
                            | exact ⟨k + 1, _, _, _, PT, su, by go_num, hkl, rfl, HXu.out, HMu.out, HPu.out, by have := HLs.out; omega⟩
                            | ((repeat apply Exists.intro); exact ⟨⟨k + 1, _, _, _, PT, su, by go_num, hkl, rfl, HXu.out, HMu.out, HPu.out, by have := HLs.out; omega⟩, rfl⟩)
                        case measure => simp [intOf]; omega
                  · have hcb5 : (c5 == 0) = false := by simpa using hc5
                    have HXs := Lib.hid h5
                    have HPs := Lib.hid hp5
                    have HMs := Lib.hid hm5
                    have HLs := Lib.hid (show pt.length ≤ 60 * i + (k + 1) by have := HP4L.out; omega)
                    clear h5 hp5 hm5 hc5
                    by_cases h3 : x.length % 3 = 0
                    · have hm3 : (x.length : Int) % 3 = 0 := by omega
                      obtain ⟨D7, L7, c7, q7, hm7⟩ := mid_keep HMs.out
                      have HS7 := Lib.hid (show Calls Tryd.prog 11 #[.pointer (some ⟨lb, 0, none⟩)] w5 (LPost w w5 b lb T5 (D7, L7, c7)) from by
                        have h := LSync_f HXs.out (by rw [HMs.out.name]; decide)
                        rw [q7] at h
                        exact h)
                      clear q7
                      go_wp2_with fail
                      with_reducible refine HS7.out.mono ?_
                      rintro e7 w7 ⟨rfl, h7, k7⟩
                      simp only at h7
                      have HPu := Lib.hid (HPs.out.kept k7)
                      have HXu := Lib.hid h7
                      clear h7 k7 HS7 HPs HXs htW hcW
                      rcases hm7 with ⟨hc7, hm7⟩ | ⟨hc7, hm7⟩
                      · subst hc7
                        have HMu := Lib.hid hm7
                        clear hm7 HMs
                        have HSU := Lib.hid (LSure_f HXu.out.log)
                        have HCO := Lib.hid (LCount_f HXu.out.log)
                        rw [HMu.out.sur] at HSU
                        rw [HMu.out.count] at HCO
                        go_wp2_with fail
                        with_reducible refine HSU.out.mono ?_
                        rintro e8 w8 ⟨rfl, rfl⟩
                        go_wp2_with fail
                        with_reducible refine HCO.out.mono ?_
                        rintro e8 w8 ⟨rfl, rfl⟩
                        clear HSU HCO
                        go_wp2_with fail
                        go_roundw
                        case rel =>
                          first
                            | exact ⟨k + 1, _, _, _, pt, pt.length, by go_num, hkl, rfl, HXu.out, HMu.out, HPu.out, by have := HLs.out; omega⟩
                            | ((repeat apply Exists.intro); exact ⟨⟨k + 1, _, _, _, pt, pt.length, by go_num, hkl, rfl, HXu.out, HMu.out, HPu.out, by have := HLs.out; omega⟩, rfl⟩)
                        case measure => simp [intOf]; omega
                      · have hcb7 : (c7 == 0) = false := by simpa using hc7
                        have HMu := Lib.hid hm7
                        clear hm7 HMs hc7
                        have HSU := Lib.hid (LSure_f HXu.out.log)
                        have HCO := Lib.hid (LCount_f HXu.out.log)
                        rw [HMu.out.sur] at HSU
                        rw [HMu.out.count] at HCO
                        go_wp2_with fail
                        with_reducible refine HSU.out.mono ?_
                        rintro e8 w8 ⟨rfl, rfl⟩
                        go_wp2_with fail
                        with_reducible refine HCO.out.mono ?_
                        rintro e8 w8 ⟨rfl, rfl⟩
                        clear HSU HCO
                        go_wp2_with fail
                        go_roundw
                        case rel =>
                          first
                            | exact ⟨k + 1, _, _, _, pt, su, by go_num, hkl, rfl, HXu.out, HMu.out, HPu.out, by have := HLs.out; omega⟩
                            | ((repeat apply Exists.intro); exact ⟨⟨k + 1, _, _, _, pt, su, by go_num, hkl, rfl, HXu.out, HMu.out, HPu.out, by have := HLs.out; omega⟩, rfl⟩)
                        case measure => simp [intOf]; omega
                    · have h3b : x.length % 3 = 1 ∨ x.length % 3 = 2 := by omega
                      have HXu := Lib.hid HXs.out
                      have HMu := Lib.hid HMs.out
                      have HPu := Lib.hid HPs.out
                      clear HXs HMs HPs
                      rcases h3b with h3b | h3b
                      · have hm3 : (x.length : Int) % 3 = 1 := by omega
                        have HSU := Lib.hid (LSure_f HXu.out.log)
                        have HCO := Lib.hid (LCount_f HXu.out.log)
                        rw [HMu.out.sur] at HSU
                        rw [HMu.out.count] at HCO
                        go_wp2_with fail
                        with_reducible refine HSU.out.mono ?_
                        rintro e8 w8 ⟨rfl, rfl⟩
                        go_wp2_with fail
                        with_reducible refine HCO.out.mono ?_
                        rintro e8 w8 ⟨rfl, rfl⟩
                        clear HSU HCO
                        go_wp2_with fail
                        go_roundw
                        case rel =>
                          first
                            | exact ⟨k + 1, _, _, _, pt, su, by go_num, hkl, rfl, HXu.out, HMu.out, HPu.out, by have := HLs.out; omega⟩
                            | ((repeat apply Exists.intro); exact ⟨⟨k + 1, _, _, _, pt, su, by go_num, hkl, rfl, HXu.out, HMu.out, HPu.out, by have := HLs.out; omega⟩, rfl⟩)
                        case measure => simp [intOf]; omega
                      · have hm3 : (x.length : Int) % 3 = 2 := by omega
                        have HSU := Lib.hid (LSure_f HXu.out.log)
                        have HCO := Lib.hid (LCount_f HXu.out.log)
                        rw [HMu.out.sur] at HSU
                        rw [HMu.out.count] at HCO
                        go_wp2_with fail
                        with_reducible refine HSU.out.mono ?_
                        rintro e8 w8 ⟨rfl, rfl⟩
                        go_wp2_with fail
                        with_reducible refine HCO.out.mono ?_
                        rintro e8 w8 ⟨rfl, rfl⟩
                        clear HSU HCO
                        go_wp2_with fail
                        go_roundw
                        case rel =>
                          first
                            | exact ⟨k + 1, _, _, _, pt, su, by go_num, hkl, rfl, HXu.out, HMu.out, HPu.out, by have := HLs.out; omega⟩
                            | ((repeat apply Exists.intro); exact ⟨⟨k + 1, _, _, _, pt, su, by go_num, hkl, rfl, HXu.out, HMu.out, HPu.out, by have := HLs.out; omega⟩, rfl⟩)
                        case measure => simp [intOf]; omega
                · obtain rfl : k = l.length := by omega
                  have t4 : ¬ (l.length : Int) < (l.length : Int) := by omega
                  have HDN := Lib.hid (show Done_ w wr b D T (.slice pv pt.length cv) pt su from ⟨hx.dx, fun kk => mid_crash hm kk, hp.lb fun k hk e => (hp.apart k hk).1 (e ▸ hx.dx.mineb)⟩)
                  have HPL := Lib.hid (show pt.length ≤ 60 * (i + 1) by omega)
                  clear hx hm hp HX4 HM4 HP5
                  by_cases hki : i < keep.length
                  · have ki1 : (i : Int) < (keep.length : Int) := by omega
                    obtain ⟨gk, ok, rfl, hck⟩ := HK.out.1 i hki
                    have hgk : gk < w.heap.size := lt_of_cell hck
                    have hckw : wr.cell? ⟨gk, ok + i, none⟩ = some (.int .i64 keep[i]) := (HDN.out.dx.below.cell (p := ⟨gk, ok + i, none⟩) hgk).trans hck
                    have HCR := Lib.hid (HDN.out.crash keep[i] (HK.out.2 _ (List.getElem_mem hki)))
                    clear hck
                    generalize keep[i] = kx at *
                    go_wp2_with fail
                    with_reducible refine HCR.out.mono ?_
                    rintro e9 w9 ⟨rfl, D9, T9, h9, a9, p9⟩
                    have H9 := Lib.hid (And.intro h9 (And.intro a9 p9))
                    clear h9 a9 p9 HCR HDN hckw
                    by_cases hfi : i < fz.length
                    · have fi1 : (i : Int) < (fz.length : Int) := by omega
                      obtain ⟨gf, of_, rfl, hgf, hcf⟩ := HF.out i hfi
                      have hcfw : w9.cell? ⟨gf, of_ + i, none⟩ = some (.int .u8 (fz[i].toNat : Int)) := (H9.out.1.below.cell (p := ⟨gf, of_ + i, none⟩) hgf).trans hcf
                      have hfb : fz[i].toNat < 256 := Crc.u8_lt _
                      have HFU := Lib.hid (ahead_fuse_f H9.out.1 H9.out.2.1 H9.out.2.2 fz[i].toNat hfb)
                      clear hcf
                      generalize fz[i].toNat = fx at *
                      go_wp2_with fail
                      with_reducible refine HFU.out.mono ?_
                      rintro e8 wz ⟨rfl, D8, T8, h8, a8, p8⟩
                      have H8 := Lib.hid (And.intro h8 (And.intro a8 p8))
                      clear h8 a8 p8 HFU H9 hcfw
                      go_wp2_with fail
                      go_roundw
                      case rel =>
                        first
                          | exact ⟨i + 1, D8, T8, _, _, by go_num, hil, rfl, H8.out.1, H8.out.2.1, H8.out.2.2, HPL.out⟩
                          | ((repeat apply Exists.intro); exact ⟨⟨i + 1, D8, T8, _, _, by go_num, hil, rfl, H8.out.1, H8.out.2.1, H8.out.2.2, HPL.out⟩, rfl⟩)
                      case measure => simp [intOf]; omega
                    · have fi1 : ¬ (i : Int) < (fz.length : Int) := by omega
                      go_wp2_with fail
                      go_roundw
                      case rel =>
                        first
                          | exact ⟨i + 1, D9, T9, _, _, by go_num, hil, rfl, H9.out.1, H9.out.2.1, H9.out.2.2, HPL.out⟩
                          | ((repeat apply Exists.intro); exact ⟨⟨i + 1, D9, T9, _, _, by go_num, hil, rfl, H9.out.1, H9.out.2.1, H9.out.2.2, HPL.out⟩, rfl⟩)
                      case measure => simp [intOf]; omega
                  · have ki1 : ¬ (i : Int) < (keep.length : Int) := by omega
                    have HCR := Lib.hid HDN.out.crash0
                    go_wp2_with fail
                    with_reducible refine HCR.out.mono ?_
                    rintro e9 w9 ⟨rfl, D9, T9, h9, a9, p9⟩
                    have H9 := Lib.hid (And.intro h9 (And.intro a9 p9))
                    clear h9 a9 p9 HCR HDN
                    by_cases hfi : i < fz.length
                    · have fi1 : (i : Int) < (fz.length : Int) := by omega
                      obtain ⟨gf, of_, rfl, hgf, hcf⟩ := HF.out i hfi
                      have hcfw : w9.cell? ⟨gf, of_ + i, none⟩ = some (.int .u8 (fz[i].toNat : Int)) := (H9.out.1.below.cell (p := ⟨gf, of_ + i, none⟩) hgf).trans hcf
                      have hfb : fz[i].toNat < 256 := Crc.u8_lt _
                      have HFU := Lib.hid (ahead_fuse_f H9.out.1 H9.out.2.1 H9.out.2.2 fz[i].toNat hfb)
                      clear hcf
                      generalize fz[i].toNat = fx at *
                      go_wp2_with fail
                      with_reducible refine HFU.out.mono ?_
                      rintro e8 wz ⟨rfl, D8, T8, h8, a8, p8⟩
                      have H8 := Lib.hid (And.intro h8 (And.intro a8 p8))
                      clear h8 a8 p8 HFU H9 hcfw
                      go_wp2_with fail
                      go_roundw
                      case rel =>
                        first
                          | exact ⟨i + 1, D8, T8, _, _, by go_num, hil, rfl, H8.out.1, H8.out.2.1, H8.out.2.2, HPL.out⟩
                          | ((repeat apply Exists.intro); exact ⟨⟨i + 1, D8, T8, _, _, by go_num, hil, rfl, H8.out.1, H8.out.2.1, H8.out.2.2, HPL.out⟩, rfl⟩)
                      case measure => simp [intOf]; omega
                    · have fi1 : ¬ (i : Int) < (fz.length : Int) := by omega
                      go_wp2_with fail
                      go_roundw
                      case rel =>
                        first
                          | exact ⟨i + 1, D9, T9, _, _, by go_num, hil, rfl, H9.out.1, H9.out.2.1, H9.out.2.2, HPL.out⟩
                          | ((repeat apply Exists.intro); exact ⟨⟨i + 1, D9, T9, _, _, by go_num, hil, rfl, H9.out.1, H9.out.2.1, H9.out.2.2, HPL.out⟩, rfl⟩)
                      case measure => simp [intOf]; omega
          · obtain rfl : i = rs.length := by omega
            have t2 : ¬ (rs.length : Int) < (rs.length : Int) := by omega
            have HB := Lib.hid hx.below
            clear hx ha hp
            go_wp2_with fail
            with_reducible refine (LWorks_f _ (HT.out.next HB.out)).mono ?_
            rintro e w2 ⟨rfl, hb2⟩
            have HB2 := Lib.hid (HB.out.trans (hb2.mono HB.out.size))
            clear hb2
            go_wp2
            go_ret
            exact ⟨rfl, HB2.out⟩
end Go.Proofs.YtpiaplgbpjgjiaaDoor.Lg
