/-
  Stores (layer 9): the statement StoreKeeps, walked. Conditions: the arguments lie in memory and are within the reach; the tables are laid.
-/
import Derived.Deep.RegionHeld3
import Derived.Deep.CutRange
import Derived.Test.YtmejdcnnpenaaaaGreatDoorZStKeepW
import Derived.Test.YtmejdcnnpenaaaaGreatDoorZLgRounds
open Go Go.RowKit
namespace Go.Proofs.YtmejdcnnpenaaaaGreatDoor.St
open Base Mp Dk Frame Lg

def wsum (rs : List (List Key)) : Nat := (rs.map weight).sum
theorem wsum_succ (rs : List (List Key)) (i : Nat) (h : i < rs.length) : wsum (rs.take (i + 1)) = wsum (rs.take i) + weight rs[i] := by
  unfold wsum
  rw [List.take_succ_eq_append_getElem h, List.map_append, List.sum_append]
  simp
theorem wsum_mem {rs : List (List Key)} {l : List Key} (h : l ∈ rs) : weight l ≤ wsum rs := mem_le_sum (List.mem_map.2 ⟨l, h, rfl⟩)
theorem weight_len (l : List Key) : l.length ≤ weight l := by
  induction l with
  | nil => simp [weight]
  | cons a r ih =>
    have e : weight (a :: r) = 1 + a.length + weight r := by unfold weight; simp
    rw [e, List.length_cons]; omega
theorem wsum_le (rs : List (List Key)) (i : Nat) : wsum (rs.take i) ≤ wsum rs := by
  unfold wsum
  induction rs generalizing i with
  | nil => simp
  | cons a r ih =>
    cases i with
    | zero => simp
    | succ i =>
      have := ih i
      simp only [List.take_succ_cons, List.map_cons, List.sum_cons]
      omega
theorem strs_take_ (l : List Key) (m : Nat) : strs (l.take m) = (strs l).take m := by unfold strs; rw [List.map_take]
theorem open_two (w1 : World) : Below w1.heap.size w1 ((w1.alloc (.cells #[.string ⟨#[]⟩, .slice none 0 0, .int .i64 0] 44)).alloc (.cells #[.string ⟨#[]⟩, .slice none 0 0, .int .i64 (-1)] 44)) ∧ CellsAt ((w1.alloc (.cells #[.string ⟨#[]⟩, .slice none 0 0, .int .i64 0] 44)).alloc (.cells #[.string ⟨#[]⟩, .slice none 0 0, .int .i64 (-1)] 44)) w1.heap.size 3 (keptCell [] (.slice none 0 0) (0 : Nat)) ∧
    CellsAt ((w1.alloc (.cells #[.string ⟨#[]⟩, .slice none 0 0, .int .i64 0] 44)).alloc (.cells #[.string ⟨#[]⟩, .slice none 0 0, .int .i64 (-1)] 44)) (w1.heap.size + 1) 3 (othCell none) := by
  have h1 := cells_made w1 #[.string ⟨#[]⟩, .slice none 0 0, .int .i64 0] 44
  have h2 := cells_made (w1.alloc (.cells #[.string ⟨#[]⟩, .slice none 0 0, .int .i64 0] 44)) #[.string ⟨#[]⟩, .slice none 0 0, .int .i64 (-1)] 44
  have z1 := alloc_more w1 (.cells #[.string ⟨#[]⟩, .slice none 0 0, .int .i64 0] 44)
  have b1 : Below w1.heap.size w1 (w1.alloc (.cells #[.string ⟨#[]⟩, .slice none 0 0, .int .i64 0] 44)) := (Below.refl _ _).alloc (Nat.le_refl _) _
  rw [z1] at h2
  refine ⟨b1.alloc (by omega) _, (h1.below ((Below.refl _ _).alloc (Nat.le_refl _) _) (by omega)).congr fun j hj => ?_, h2.congr fun j hj => ?_⟩
  · have : j < 3 := hj
    have : j = 0 ∨ j = 1 ∨ j = 2 := by omega
    rcases this with rfl | rfl | rfl <;> rfl
  · have : j < 3 := hj
    have : j = 0 ∨ j = 1 ∨ j = 2 := by omega
    rcases this with rfl | rfl | rfl <;> rfl
set_option maxRecDepth 100000 in
set_option maxHeartbeats 16000000 in
theorem StoreKeeps_calls (w : World) (p q kp : Option Addr) (cap qc kc : Nat) (rs : List (List Key)) (fz : List UInt8) (keep : List Int) (hl : rs.length ≤ maxLen) (hr : RoundsArg w p rs) (hrl : ∀ l ∈ rs, l.length ≤ maxLen) (hz : ∀ l ∈ rs, ∀ t ∈ l, t.length ≤ 140737488351232) (hfl : fz.length ≤ maxLen) (hf : BytesArg w q fz) (hkl : keep.length ≤ maxLen) (hk : IntsAt w kp keep ∧ IntsIn keep) (hL : Laid w) :
    Calls Tryz.prog 4 #[.slice p rs.length cap, .slice q fz.length qc, .slice kp keep.length kc] w fun e w' => e = .returned (.bool true) ∧ Below w.heap.size w w' := by
  have HR := Lib.hid hr
  have HRL := Lib.hid hrl
  have HZ := Lib.hid hz
  have HF := Lib.hid hf
  have HK := Lib.hid hk
  have HL := Lib.hid hL
  unfold maxLen at hl hfl hkl
  clear hr hrl hz hf hk hL
  go_enter Tryz.func4, Tryz.ntmps4
  go_wp2_with fail
  go_loopw [7, 8] (fun v u wr => ∃ i : Nat, v = .int .i64 ((wsum (rs.take i) : Nat) : Int) ∧ u = .int .i64 (i : Int) ∧ i ≤ rs.length ∧ i ≤ 50 ∧ (∀ l ∈ rs.take i, l.length ≤ 40) ∧ wsum (rs.take i) ≤ i * 8444249301319680 ∧ w = wr) (fun _ u _ => rs.length - (intOf u).toNat)
  case atStart => exact ⟨0, by simp [wsum], rfl, Nat.zero_le _, by omega, fun l hl => by simp at hl, by simp [wsum], rfl⟩
  case round =>
    obtain ⟨i, rfl, rfl, hi, hi5, h60, hsum, rfl⟩ := hrel
    have H60 := Lib.hid h60
    clear h60
    by_cases hin : i < rs.length ∧ i < 50
    · obtain ⟨b0, o0, pj, cj, rfl, _, hc, hrow⟩ := HR.out i hin.1
      have HROW := Lib.hid hrow
      have HS := Lib.hid (wsum_succ rs i hin.1)
      have HZI := Lib.hid (HZ.out _ (List.getElem_mem hin.1))
      have HLI := Lib.hid (show ∀ z ∈ rs.take (i + 1), z ∈ rs.take i ∨ z = rs[i]'hin.1 from fun z hz => by
        rw [List.take_succ_eq_append_getElem hin.1] at hz
        rcases List.mem_append.1 hz with hz | hz
        · exact .inl hz
        · exact .inr (List.mem_singleton.1 hz))
      have hlm := HRL.out _ (List.getElem_mem hin.1)
      unfold maxLen at hlm
      have HI := Lib.hid hin
      have t1 : (i : Int) < (rs.length : Int) := by omega
      have t2 : (i : Int) < 50 := by omega
      have t3 : 0 ≤ (i : Int) := by omega
      clear hrow
      generalize rs[i] = l at *
      clear hin
      generalize hhn : wsum (rs.take i) = hn at *
      have HHN := Lib.hid hhn
      have HSUM := Lib.hid hsum
      have s1 : hn ≤ 422212465065984000 := Nat.le_trans hsum (by omega)
      clear hhn hsum
      by_cases hl60 : 40 < l.length
      · have hl6 : (40 : Int) < (l.length : Int) := by omega
        go_wp2_with fail
        with_reducible refine (SWorks_f _ HL.out).mono ?_
        rintro e w2 ⟨rfl, hb2⟩
        have HB2 := Lib.hid hb2
        clear hb2
        go_wp2
        go_ret
        exact ⟨rfl, HB2.out⟩
      · have hl6 : ¬ (40 : Int) < (l.length : Int) := by omega
        go_wp2_with fail
        go_loopw [7, 9] (fun v u wr => ∃ k : Nat, v = .int .i64 ((hn + weight (l.take k) : Nat) : Int) ∧ u = .int .i64 (k : Int) ∧ k ≤ l.length ∧ weight (l.take k) ≤ k * 140737488351233 ∧ w = wr) (fun _ u _ => l.length - (intOf u).toNat)
        case atStart => exact ⟨0, by simp [weight], rfl, Nat.zero_le _, by simp [weight], rfl⟩
        case round =>
          obtain ⟨k, rfl, rfl, hk, hws, rfl⟩ := hrel
          by_cases hkl : k < l.length
          · obtain ⟨bs, os, rfl, hbs, hcs⟩ := HROW.out k (by rw [strs_length]; exact hkl)
            rw [strs_at _ _ hkl] at hcs
            have t4 : (k : Int) < (l.length : Int) := by omega
            have t5 : 0 ≤ (k : Int) := by omega
            have HWS := Lib.hid (weight_succ l k hkl)
            have hzk := HZI.out _ (List.getElem_mem hkl)
            generalize l[k] = x at *
            have s2 : weight (l.take k) ≤ 8444249301319680 := Nat.le_trans hws (by omega)
            have HW2 := Lib.hid hws
            generalize weight (l.take k) = wk at *
            clear hws
            go_wp2_with fail
            go_roundw
            case rel =>
              first
                | exact ⟨k + 1, by rw [HWS.out]; go_num, by go_num, hkl, by rw [HWS.out]; have := HW2.out; omega, by first | rfl | trivial⟩
                | ((repeat apply Exists.intro); exact ⟨⟨k + 1, by rw [HWS.out]; go_num, by go_num, hkl, by rw [HWS.out]; have := HW2.out; omega, by first | rfl | trivial⟩, rfl⟩)
            case measure => simp [intOf]; omega
          · obtain rfl : k = l.length := by omega
            rw [List.take_length] at hws ⊢
            have t4 : ¬ (l.length : Int) < (l.length : Int) := by omega
            have HW2 := Lib.hid hws
            generalize weight l = wk at *
            clear hws
            go_wp2_with fail
            go_roundw
            case rel =>
              first
                | exact ⟨i + 1, by rw [HS.out], by go_num, HI.out.1, HI.out.2, fun z hz => (HLI.out z hz).elim (H60.out z) (fun e => by rw [e]; omega), by rw [HS.out]; have := HSUM.out; have := HW2.out; omega, by first | rfl | trivial⟩
                | ((repeat apply Exists.intro); exact ⟨⟨i + 1, by rw [HS.out], by go_num, HI.out.1, HI.out.2, fun z hz => (HLI.out z hz).elim (H60.out z) (fun e => by rw [e]; omega), by rw [HS.out]; have := HSUM.out; have := HW2.out; omega, by first | rfl | trivial⟩, rfl⟩)
            case measure => have := HI.out; simp [intOf]; omega
    · by_cases hv : 12 < rs.length ∨ (rs.length ≤ 12 ∧ (4096 < wsum (rs.take i) ∨ (wsum (rs.take i) ≤ 4096 ∧ (30 < fz.length ∨ (fz.length ≤ 30 ∧ 60 < keep.length)))))
      · have s1 : wsum (rs.take i) ≤ 422212465065984000 := Nat.le_trans hsum (by omega)
        generalize wsum (rs.take i) = hn at *
        have hguard : ¬ (i : Int) < (rs.length : Int) ∨ ((i : Int) < (rs.length : Int) ∧ ¬ (i : Int) < 50) := by omega
        have hv2 : (12 : Int) < (rs.length : Int) ∨ (¬ (12 : Int) < (rs.length : Int) ∧ (4096 : Int) < ((hn : Nat) : Int)) ∨ (¬ (12 : Int) < (rs.length : Int) ∧ ¬ (4096 : Int) < ((hn : Nat) : Int) ∧ (30 : Int) < (fz.length : Int)) ∨ (¬ (12 : Int) < (rs.length : Int) ∧ ¬ (4096 : Int) < ((hn : Nat) : Int) ∧ ¬ (30 : Int) < (fz.length : Int) ∧ (60 : Int) < (keep.length : Int)) := by omega
        clear hin hv hsum
        rcases hguard with hg1 | ⟨hg1, hg2⟩ <;> rcases hv2 with hv3 | ⟨hv3, hv4⟩ | ⟨hv3, hv4, hv5⟩ | ⟨hv3, hv4, hv5, hv6⟩
        all_goals first
          | (exfalso; omega)
          | (go_wp2_with fail
             with_reducible refine (SWorks_f _ HL.out).mono ?_
             rintro e w2 ⟨rfl, hb2⟩
             have HB2 := Lib.hid hb2
             clear hb2
             go_wp2
             go_ret
             exact ⟨rfl, HB2.out⟩)
      · have hll : rs.length ≤ 12 := by omega
        obtain rfl : i = rs.length := by omega
        rw [List.take_length] at hv hsum H60 ⊢
        have hwt : wsum rs ≤ 4096 := by omega
        have HWT := Lib.hid hwt
        have hf30 : fz.length ≤ 30 := by omega
        have hk60 : keep.length ≤ 60 := by omega
        have v1 : ¬ (12 : Int) < (rs.length : Int) := by omega
        have v2 : ¬ (4096 : Int) < ((wsum rs : Nat) : Int) := by omega
        have v3 : ¬ (30 : Int) < (fz.length : Int) := by omega
        have v4 : ¬ (60 : Int) < (keep.length : Int) := by omega
        have t1 : ¬ (rs.length : Int) < (rs.length : Int) := by omega
        have hk61 : keep.length ≤ 60 := by omega
        have HSH := Lib.hid (show ∀ l ∈ rs, ∀ t ∈ l, t.length ≤ 4096 from fun l hl t ht => by have := mem_weight ht; have := wsum_mem hl; omega)
        have HN := Lib.hid (show Calls Tryz.prog 8 #[.int .i64 65536] w fun e w' => ∃ b, e = .returned (.tuple #[.pointer (some ⟨b, 0, none⟩), .int .i64 0]) ∧ DW w w' b ⟨65536, [], false, 0⟩ from DW.new (r := 65536) (by decide) (Below.refl w.heap.size w))
        clear hin hv hsum hwt hf30 hk60
        obtain ⟨wl, hwl⟩ : ∃ wl, wl = wsum rs := ⟨_, rfl⟩
        rw [← hwl] at v2 ⊢
        clear hwl
        go_wp2_with fail
        with_reducible refine HN.out.mono ?_
        rintro e w1 ⟨b, rfl, h1⟩
        obtain ⟨T1, h1⟩ := dx_of h1
        have H1 := Lib.hid h1
        clear h1 HN
        go_wp2_with fail
        have hmk := open_two w1
        have HM1 := Lib.hid (show KMem w ((w1.alloc (.cells #[.string ⟨#[]⟩, .slice none 0 0, .int .i64 0] 44)).alloc (.cells #[.string ⟨#[]⟩, .slice none 0 0, .int .i64 (-1)] 44)) w1.heap.size (w1.heap.size + 1) T1 [] (.slice none 0 0) [] 0 none from
          ⟨hmk.2.1, hmk.2.2, by omega, H1.out.below.size, by have := H1.out.below.size; omega, fun e => by have := H1.out.old _ e; omega, fun e => by have := H1.out.old _ e; omega, Put2.none _ _ _, fun k hk => by cases hk⟩)
        have HX1 := Lib.hid (H1.out.later hmk.1)
        obtain ⟨nb, hnb⟩ : ∃ nb, nb = w1.heap.size := ⟨_, rfl⟩
        obtain ⟨ob, hob⟩ : ∃ ob, ob = w1.heap.size + 1 := ⟨_, rfl⟩
        clear hmk H1
        rw [← hob, ← hnb] at HM1 ⊢
        generalize ((w1.alloc (Obj.cells _ _)).alloc (Obj.cells _ _)) = w2 at *
        clear hnb hob
        go_loopw [14] (fun u wr => ∃ (i : Nat) (D : DiskD) (T : Nat → Prop) (t : Key) (v : Value) (lk : List Key) (s : Nat) (o : Option Key), u = .int .i64 (i : Int) ∧ i ≤ rs.length ∧ DX w wr b D T ∧ KMem w wr nb ob T t v lk s o ∧ Ahead D t lk s o (8 * wsum (rs.take i)) ∧ Cost D (8 * wsum (rs.take i)) ∧ lk.length ≤ 40 * i) (fun u _ => rs.length - (intOf u).toNat)
        case atStart => exact ⟨0, _, _, [], _, [], 0, none, rfl, Nat.zero_le _, HX1.out, HM1.out, by simpa [wsum] using ahead_none, by simpa [wsum] using cost_none, Nat.le_refl _⟩
        case round =>
          obtain ⟨i, D, T, t, v, lk, s, o, rfl, hi, hx, hm, ha, hc, hlk⟩ := hrel
          by_cases hil : i < rs.length
          · have HX := Lib.hid hx
            have HM := Lib.hid hm
            have HIL := Lib.hid hil
            have t2 : (i : Int) < (rs.length : Int) := by omega
            have t3 : 0 ≤ (i : Int) := by omega
            have HC5 := Lib.hid (show 8 * wsum (rs.take i) ≤ 8 * wsum (rs.take (i + 1)) by rw [wsum_succ rs i hil]; omega)
            have HC6 := Lib.hid (show 8 * wsum (rs.take (i + 1)) ≤ 32768 by have := wsum_le rs (i + 1); have := HWT.out; omega)
            obtain ⟨b0, o0, pj, cj, rfl, hb0, hcr, hrow⟩ := HR.out i hil
            have HROW := Lib.hid hrow
            have hl40 := H60.out _ (List.getElem_mem hil)
            have HSI := Lib.hid (HSH.out _ (List.getElem_mem hil))
            have HWS := Lib.hid (wsum_succ rs i hil)
            have HC := Lib.hid hcr
            have hop := RAt.open_ HL.out hx hm ha hc
            clear hrow hcr hx hm ha hc
            generalize rs[i] = l at *
            clear hil
            rcases hop with hO | ⟨t', rs', hcase, hO⟩
            · have HO := Lib.hid hO
              clear hO
              go_wp2_with fail
              with_reducible refine HO.out.mono ?_
              rintro e w5 ⟨rfl, D5, T5, h5⟩
              have HRA := Lib.hid (h5.le HC5.out)
              have HLN := Lib.hid (show lk.length ≤ 40 * (i + 1) by omega)
              clear h5 HO HX HM
              by_cases hki : i < keep.length
              · have ki1 : (i : Int) < (keep.length : Int) := by omega
                obtain ⟨kz, hkz⟩ : ∃ kz, kz = keep.length - 1 := ⟨_, rfl⟩
                have kl1 : kz < keep.length := by omega
                obtain ⟨gk, ok, hkp, hck⟩ := HK.out.1 i hki
                obtain ⟨gk2, ok2, hkp2, hcl⟩ := HK.out.1 kz kl1
                rw [hkp] at hkp2
                injection hkp2 with hkp2
                injection hkp2 with e1 e2
                subst e1 e2 hkp
                have hgk : gk < w.heap.size := lt_of_cell hck
                have hckw : w5.cell? ⟨gk, ok + i, none⟩ = some (.int .i64 keep[i]) := (HRA.out.dx.below.cell (p := ⟨gk, ok + i, none⟩) hgk).trans hck
                have hclw : w5.cell? ⟨gk, ok + kz, none⟩ = some (.int .i64 keep[kz]) := (HRA.out.dx.below.cell (p := ⟨gk, ok + kz, none⟩) hgk).trans hcl
                have hgw : gk < w5.heap.size := lt_of_cell hckw
                have HCR := Lib.hid (HRA.out.crash3 (by have := HC6.out; omega) keep[i] keep[i] keep[kz] (HK.out.2 _ (List.getElem_mem hki)) (HK.out.2 _ (List.getElem_mem hki)) (HK.out.2 _ (List.getElem_mem kl1)))
                have kw : (keep.length : Int) - 1 = (kz : Int) := by omega
                have kz0 : 0 ≤ (kz : Int) := by omega
                have kz1 : (kz : Int) < (keep.length : Int) := by omega
                have i0 : 0 ≤ (i : Int) := by omega
                have kww : IntKind.i64.wrap (kz : Int) = (kz : Int) := by rw [IntKind.wrap_i64]; omega
                have HCK := Lib.hid (And.intro hck hcl)
                clear hck hcl
                generalize keep[i] = kx at *
                generalize keep[kz] = ky at *
                clear hkz kl1
                go_wp2_with fail
                have HCR2 := Lib.hid (show Calls Tryz.prog 17 #[.pointer (some ⟨b, 0, none⟩), .slice (some ⟨w5.heap.size, 0, none⟩) 3 3] ((w5.alloc (.cells #[.int .i64 kx, .int .i64 kx, .int .i64 ky] 3)).drew) _ from HCR.out w5.drew (Below.refl _ _).drew)
                go_region_held3 (fun W => W.cell? ⟨gk, ok + i, none⟩ = some (.int .i64 kx) ∧ W.cell? ⟨gk, ok + kz, none⟩ = some (.int .i64 ky)) (first | go_keep | exact ⟨(h9.below.cell (p := ⟨gk, ok + i, none⟩) hgk).trans HCK.out.1, (h9.below.cell (p := ⟨gk, ok + kz, none⟩) hgk).trans HCK.out.2⟩)
                  ((go_at_call 17; with_reducible refine HCR2.out.mono ?_; rintro e9 w9 ⟨rfl, D9, T9, h9, m9, a9, p9⟩))
                have H9 := Lib.hid (And.intro h9 (And.intro m9 (And.intro a9 p9)))
                clear h9 m9 a9 p9 HCR HCR2 HRA hckw hclw kw kww kz0 kz1
                by_cases hfi : i < fz.length
                · have fi1 : (i : Int) < (fz.length : Int) := by omega
                  obtain ⟨gf, of_, rfl, hgf, hcf⟩ := HF.out i hfi
                  have hcfw : w9.cell? ⟨gf, of_ + i, none⟩ = some (.int .u8 (fz[i].toNat : Int)) := (H9.out.1.below.cell (p := ⟨gf, of_ + i, none⟩) hgf).trans hcf
                  have hfb : fz[i].toNat < 256 := Crc.u8_lt _
                  have HFU := Lib.hid (RAt.fuse H9.out.1 H9.out.2.1 H9.out.2.2.1 H9.out.2.2.2 fz[i].toNat hfb)
                  clear hcf
                  generalize fz[i].toNat = fx at *
                  go_wp2_with fail
                  with_reducible refine HFU.out.mono ?_
                  rintro e8 wz ⟨rfl, D8, T8, h8, m8, a8, p8⟩
                  have H8 := Lib.hid (And.intro h8 (And.intro m8 (And.intro a8 p8)))
                  clear h8 m8 a8 p8 HFU H9 hcfw
                  go_wp2_with fail
                  go_roundw
                  case rel =>
                    first
                      | exact ⟨i + 1, D8, T8, _, _, _, _, _, by go_num, HIL.out, H8.out.1, H8.out.2.1, H8.out.2.2.1, H8.out.2.2.2, HLN.out⟩
                      | ((repeat apply Exists.intro); exact ⟨⟨i + 1, D8, T8, _, _, _, _, _, by go_num, HIL.out, H8.out.1, H8.out.2.1, H8.out.2.2.1, H8.out.2.2.2, HLN.out⟩, rfl⟩)
                  case measure => have := HIL.out; simp [intOf]; omega
                · have fi1 : ¬ (i : Int) < (fz.length : Int) := by omega
                  go_wp2_with fail
                  go_roundw
                  case rel =>
                    first
                      | exact ⟨i + 1, D9, T9, _, _, _, _, _, by go_num, HIL.out, H9.out.1, H9.out.2.1, H9.out.2.2.1, H9.out.2.2.2, HLN.out⟩
                      | ((repeat apply Exists.intro); exact ⟨⟨i + 1, D9, T9, _, _, _, _, _, by go_num, HIL.out, H9.out.1, H9.out.2.1, H9.out.2.2.1, H9.out.2.2.2, HLN.out⟩, rfl⟩)
                  case measure => have := HIL.out; simp [intOf]; omega
              · have ki1 : ¬ (i : Int) < (keep.length : Int) := by omega
                have HCR := Lib.hid (HRA.out.crash0 (by have := HC6.out; omega))
                go_wp2_with fail
                with_reducible refine HCR.out.mono ?_
                rintro e9 w9 ⟨rfl, D9, T9, h9, m9, a9, p9⟩
                have H9 := Lib.hid (And.intro h9 (And.intro m9 (And.intro a9 p9)))
                clear h9 m9 a9 p9 HCR HRA
                by_cases hfi : i < fz.length
                · have fi1 : (i : Int) < (fz.length : Int) := by omega
                  obtain ⟨gf, of_, rfl, hgf, hcf⟩ := HF.out i hfi
                  have hcfw : w9.cell? ⟨gf, of_ + i, none⟩ = some (.int .u8 (fz[i].toNat : Int)) := (H9.out.1.below.cell (p := ⟨gf, of_ + i, none⟩) hgf).trans hcf
                  have hfb : fz[i].toNat < 256 := Crc.u8_lt _
                  have HFU := Lib.hid (RAt.fuse H9.out.1 H9.out.2.1 H9.out.2.2.1 H9.out.2.2.2 fz[i].toNat hfb)
                  clear hcf
                  generalize fz[i].toNat = fx at *
                  go_wp2_with fail
                  with_reducible refine HFU.out.mono ?_
                  rintro e8 wz ⟨rfl, D8, T8, h8, m8, a8, p8⟩
                  have H8 := Lib.hid (And.intro h8 (And.intro m8 (And.intro a8 p8)))
                  clear h8 m8 a8 p8 HFU H9 hcfw
                  go_wp2_with fail
                  go_roundw
                  case rel =>
                    first
                      | exact ⟨i + 1, D8, T8, _, _, _, _, _, by go_num, HIL.out, H8.out.1, H8.out.2.1, H8.out.2.2.1, H8.out.2.2.2, HLN.out⟩
                      | ((repeat apply Exists.intro); exact ⟨⟨i + 1, D8, T8, _, _, _, _, _, by go_num, HIL.out, H8.out.1, H8.out.2.1, H8.out.2.2.1, H8.out.2.2.2, HLN.out⟩, rfl⟩)
                  case measure => have := HIL.out; simp [intOf]; omega
                · have fi1 : ¬ (i : Int) < (fz.length : Int) := by omega
                  go_wp2_with fail
                  go_roundw
                  case rel =>
                    first
                      | exact ⟨i + 1, D9, T9, _, _, _, _, _, by go_num, HIL.out, H9.out.1, H9.out.2.1, H9.out.2.2.1, H9.out.2.2.2, HLN.out⟩
                      | ((repeat apply Exists.intro); exact ⟨⟨i + 1, D9, T9, _, _, _, _, _, by go_num, HIL.out, H9.out.1, H9.out.2.1, H9.out.2.2.1, H9.out.2.2.2, HLN.out⟩, rfl⟩)
                  case measure => have := HIL.out; simp [intOf]; omega
            · have HO := Lib.hid hO
              clear hO
              go_wp2_with fail
              with_reducible refine HO.out.mono ?_
              rintro e w5 ⟨sb, pr, cr, D5, S5, U5, rfl, h5, m5, r5, g5, n5, c5⟩
              have H5 := Lib.hid (And.intro h5 (And.intro g5 (And.intro n5 c5)))
              have HM5 := Lib.hid m5
              have HR5 := Lib.hid r5
              have HCASE := Lib.hid hcase
              have n0 := (m5.now 0 (by omega)).1
              have n1 := (m5.now 1 (by omega)).1
              have n2 := (m5.now 2 (by omega)).1
              obtain ⟨pv, cv, rfl, hrv⟩ := m5.put.arg
              obtain ⟨_, _, hcv0, -, -, hcv, -⟩ := own_take m5.put.own (Nat.le_refl _)
              have hcv : lk.length ≤ cv := by
                injection hcv0 with e1 e2 e3
                rw [e3]; exact hcv
              clear hcv0
              have HRV := Lib.hid hrv
              simp only [keptCell] at n0 n1 n2
              obtain ⟨c1, hc1⟩ : ∃ c1 : Bool, (c1 = true ∧ ∃ j, t' = t ∧ rs' = lk.take j ∧ s ≤ j ∧ j ≤ lk.length) ∨ (c1 = false ∧ o = some t' ∧ rs' = []) := by
                rcases hcase with h | h
                · exact ⟨true, .inl ⟨rfl, h⟩⟩
                · exact ⟨false, .inr ⟨rfl, h⟩⟩
              have hrs : rs'.length ≤ 40 * i := by
                rcases hcase with ⟨j, _, e, _, _⟩ | ⟨_, e⟩
                · rw [e, List.length_take]; omega
                · rw [e]; simp
              have hi13 : i < 13 := by have := HIL.out; omega
              have HC1 := Lib.hid hc1
              clear h5 g5 n5 c5 m5 r5 hcase hrv hc1 HO
              have nb5 : nb < w5.heap.size := lt_of_cell n0
              go_upto_region 25 with fail
              go_cut [19] from 91 to 256 (fun s19 wx => ∃ o1 : Bool, s19 = .bool o1 ∧ (c1 = true → o1 = true) ∧ ∃ n, wx = w5.drewN n)
              case first =>
                as_aux_lemma =>
                  rcases HC1.out with ⟨rfl, j, rfl, hrj, hj1, hj2⟩ | ⟨rfl, ho, hrj⟩
                  · have hk : j = rs'.length := by rw [hrj, List.length_take]; omega
                    subst hk
                    have HSM := Lib.hid (Same9_f pr pv rs' (lk.take rs'.length) cr cv w5 (by unfold maxLen; omega) (by unfold maxLen; rw [List.length_take]; omega) HR5.out (by rw [strs_take_]; exact HRV.out.take rs'.length))
                    rw [decide_eq_true hrj, show (lk.take rs'.length).length = rs'.length by rw [List.length_take]; omega] at HSM
                    have q1 : (s : Int) ≤ (rs'.length : Int) := by omega
                    have q2 : (rs'.length : Int) ≤ (lk.length : Int) := by omega
                    have q3 : 0 ≤ (rs'.length : Int) := by omega
                    have q5 : rs'.length ≤ cv := by omega
                    have q6 : (rs'.length : Int) ≤ (cv : Int) := by omega
                    clear hrj hj1 hj2
                    go_wp2_with fail
                    with_reducible refine HSM.out.mono ?_
                    rintro e w6 ⟨rfl, n6, rfl⟩
                    go_wp2_with fail
                    go_meet
                    exact ⟨true, rfl, fun _ => rfl, n6, rfl⟩
                  · subst hrj
                    have q3 : 0 ≤ (lk.length : Int) := by omega
                    by_cases hxt : t' = t
                    · subst hxt
                      by_cases hs0 : s = 0
                      · subst hs0
                        have n20 : w5.cell? ⟨nb, 2, none⟩ = some (.int .i64 0) := n2
                        have HSM := Lib.hid (show Calls Tryz.prog 15 #[.slice pr 0 cr, .slice pv 0 cv] w5 _ from Same9_f pr pv [] (lk.take 0) cr cv w5 (by simp) (by simp) HR5.out (by rw [strs_take_]; exact HRV.out.take 0))
                        clear n2
                        go_wp2_with fail
                        with_reducible refine HSM.out.mono ?_
                        rintro e w6 ⟨rfl, n6, rfl⟩
                        go_wp2_with fail
                        go_meet
                        exact ⟨_, rfl, (fun h => by cases h), n6, rfl⟩
                      · have q1 : ¬ (s : Int) ≤ 0 := by omega
                        clear hs0
                        go_wp2_with fail
                        go_meet
                        exact ⟨_, rfl, (fun h => by cases h), 0, rfl⟩
                    · have q00 : (t' == t) = false := by simpa using hxt
                      clear hxt
                      go_wp2_with fail
                      go_meet
                      exact ⟨_, rfl, (fun h => by cases h), 0, rfl⟩
              case rest =>
                obtain ⟨o1, rfl, ho1, n6, rfl⟩ := hcut
                have hb6 : Below w5.heap.size w5 (w5.drewN n6) := (Below.refl _ _).drewN n6
                have H6 := Lib.hid (And.intro (H5.out.1.later hb6) H5.out.2)
                have HM6 := Lib.hid (HM5.out.later hb6)
                have HR6 := Lib.hid (HR5.out.below hb6)
                clear H5 HM5 HR5 hb6 n0 n1 n2 nb5 HRV HCASE
                generalize w5.drewN n6 = w6 at *
                have p0 := (HM6.out.oth 0 (by omega)).1
                have p2 := (HM6.out.oth 2 (by omega)).1
                have HO1 := Lib.hid ho1
                clear ho1
                go_upto_region 26 with fail
                go_cut [20] from 91 to 256 (fun s20 wx => ∃ o2 : Bool, s20 = .bool o2 ∧ (c1 = false → o2 = true) ∧ wx = w6)
                case first =>
                  as_aux_lemma =>
                    cases o with
                    | none =>
                      have p2' : w6.cell? ⟨ob, 2, none⟩ = some (.int .i64 (-1)) := p2
                      clear p2 p0
                      go_wp2_with fail
                      go_meet
                      exact ⟨false, rfl, (fun h => by rcases HC1.out with ⟨e, _⟩ | ⟨_, e, _⟩; rw [h] at e; cases e; cases e), rfl⟩
                    | some x =>
                      have p2' : w6.cell? ⟨ob, 2, none⟩ = some (.int .i64 0) := p2
                      have p0' : w6.cell? ⟨ob, 0, none⟩ = some (.string (B x)) := p0
                      clear p2 p0
                      by_cases hxt : t' = x
                      · subst hxt
                        by_cases hr0 : rs'.length = 0
                        · have hr1 : ((rs'.length : Int) == 0) = true := by simp [hr0]
                          have hr2 : (rs'.length == 0) = true := by simp [hr0]
                          clear hr0
                          go_wp2_with fail
                          go_meet
                          exact ⟨_, rfl, fun _ => (by first | rfl | exact hr1 | exact hr2), rfl⟩
                        · have hr1 : ((rs'.length : Int) == 0) = false := by simp [hr0]
                          have hr2 : (rs'.length == 0) = false := by simp [hr0]
                          have HZ0 := Lib.hid hr0
                          clear hr0
                          go_wp2_with fail
                          go_meet
                          exact ⟨_, rfl, (fun h => by rcases HC1.out with ⟨e, _⟩ | ⟨_, _, e⟩; rw [h] at e; cases e; exact absurd (by rw [e]; rfl) HZ0.out), rfl⟩
                      · have q00 : (t' == x) = false := by simpa using hxt
                        have HX9 := Lib.hid hxt
                        clear hxt
                        go_wp2_with fail
                        go_meet
                        exact ⟨_, rfl, (fun h => by rcases HC1.out with ⟨e, _⟩ | ⟨_, e, _⟩; rw [h] at e; cases e; injection e with e; exact absurd e.symm HX9.out), rfl⟩
                case rest =>
                  obtain ⟨o2, rfl, ho2, rfl⟩ := hcut
                  clear p0 p2
                  have ho12 : o1 = true ∨ o2 = true := by
                    cases c1 with
                    | true => exact .inl (HO1.out rfl)
                    | false => exact .inr (ho2 rfl)
                  clear ho2
                  go_upto_region 27 with fail
                  go_cut [159] from 91 to 256 (fun s159 wx => s159 = .bool false ∧ wx = wc)
                  case first =>
                    as_aux_lemma =>
                      cases o1 <;> cases o2
                      · rcases ho12 with e | e <;> cases e
                      all_goals
                        go_wp2_with fail
                        go_meet
                        exact ⟨rfl, rfl⟩
                  case rest =>
                    obtain ⟨rfl, hwc⟩ := hcut
                    subst hwc
                    obtain ⟨pa, ca, w7, hra, hown7, hb7⟩ := append_strs wc pr cr rs' HR6.out (by omega)
                    have HRA := Lib.hid hra
                    have H7 := Lib.hid (And.intro (H6.out.1.later hb7) H6.out.2)
                    have HM7 := Lib.hid (HM6.out.later hb7)
                    have z7 := hb7.size
                    have HOWN := Lib.hid hown7
                    have l7 := HM6.out.lt
                    have HZ7 := Lib.hid (show w.heap.size ≤ wc.heap.size ∧ nb < wc.heap.size ∧ ob < wc.heap.size ∧ ∀ i, U5 i → i < wc.heap.size from ⟨H6.out.1.below.size, HM6.out.lt.1, HM6.out.lt.2, fun i hi => (H6.out.1.own i hi).2⟩)
                    clear hra hown7 hb7 H6 HM6 HR6 ho12
                    have z0 : nb < wc.heap.size := l7.1
                    have f0 := (HM7.out.now 0 (by omega)).1
                    have f1 := (HM7.out.now 1 (by omega)).1
                    have f2 := (HM7.out.now 2 (by omega)).1
                    have e0 := (HM7.out.now 0 (by omega)).2
                    have e1 := (HM7.out.now 1 (by omega)).2
                    have e2 := (HM7.out.now 2 (by omega)).2
                    have p0 := (HM7.out.oth 0 (by omega)).1
                    have p1 := (HM7.out.oth 1 (by omega)).1
                    have p2 := (HM7.out.oth 2 (by omega)).1
                    have r0 := (HM7.out.oth 0 (by omega)).2
                    have r1 := (HM7.out.oth 1 (by omega)).2
                    have r2 := (HM7.out.oth 2 (by omega)).2
                    simp only [keptCell] at f0 f1 f2
                    have lt7 := HM7.out.lt
                    have hne := HM7.out.ne
                    have hne2 : ob ≠ nb := fun e => hne e.symm
                    obtain ⟨lt71, lt72⟩ := lt7
                    clear l7 z0 z7 hne hne2
                    go_upto_region 30 with (at_builtin; refine wpList_append_run2 rfl _ _ _ _ rfl rfl rfl HRA.out ?_)
                    have H8 := Lib.hid (show SX w _ b sb D5 S5 U5 ∧ KMem w _ nb ob U5 t' (.slice pa rs'.length ca) rs' rs'.length o from by
                      obtain ⟨c1_, k1_⟩ := three_cells HM7.out.now (g := keptCell t' (.slice pa rs'.length ca) (rs'.length : Nat)) (.string (B t')) (.slice pa rs'.length ca) (.int .i64 (rs'.length : Nat)) rfl rfl rfl
                      exact kmem_now H7.out.1 HM7.out k1_ c1_ ⟨own_lower HOWN.out HZ7.out.1, fun k hk hu => by have := HOWN.out.lt k hk; have := HZ7.out.2.2.2 k hu; omega⟩ (fun k hk => by have := HOWN.out.lt k hk; have := HZ7.out.2.1; have := HZ7.out.2.2.1; exact ⟨by omega, by omega⟩))
                    have H5R := Lib.hid H7.out.2
                    clear f0 f1 f2 e0 e1 e2 p0 p1 p2 r0 r1 r2 lt71 lt72 HRA H7 HM7 HOWN
                    generalize (((w7.setCell _ _).setCell _ _).setCell _ _) = w8 at *
                    have p0 := (H8.out.2.oth 0 (by omega)).1
                    have p1 := (H8.out.2.oth 1 (by omega)).1
                    have p2 := (H8.out.2.oth 2 (by omega)).1
                    have r0 := (H8.out.2.oth 0 (by omega)).2
                    have r1 := (H8.out.2.oth 1 (by omega)).2
                    have r2 := (H8.out.2.oth 2 (by omega)).2
                    have lt8 := H8.out.2.lt.2
                    go_wp2_with fail
                    have H9 := Lib.hid (show SX w _ b sb D5 S5 U5 ∧ KMem w _ nb ob U5 t' (.slice pa rs'.length ca) rs' rs'.length none from by
                      obtain ⟨c1_, k1_⟩ := three_cells H8.out.2.oth (g := othCell none) (.string ⟨#[]⟩) (.slice none 0 0) (.int .i64 (-1)) rfl rfl rfl
                      exact kmem_oth H8.out.1 H8.out.2 k1_ c1_)
                    clear p0 p1 p2 r0 r1 r2 lt8 H8
                    generalize (((w8.setCell _ _).setCell _ _).setCell _ _) = w9 at *
                    have HK9 := Lib.hid (show KAt w w9 b sb nb ob D5 S5 U5 t' (.slice pa rs'.length ca) rs' rs'.length none (8 * (wsum (rs.take i) + weight (l.take 0))) from ⟨H9.out.1, H9.out.2, .live H5R.out.1 rfl (by have := H5R.out.2.1; simp [weight]; omega), by simpa [weight] using H5R.out.2.2⟩)
                    clear H9 H5R HC1 HO1 HZ7
                    go_loopw [21] (fun ku wx => ∃ (k : Nat) (D : DiskD) (S : StoreD) (U : Nat → Prop) (t : Key) (v : Value) (lk : List Key) (s : Nat) (o : Option Key), ku = .int .i64 (k : Int) ∧ k ≤ l.length ∧ KAt w wx b sb nb ob D S U t v lk s o (8 * (wsum (rs.take i) + weight (l.take k))) ∧ lk.length ≤ 40 * i + k) (fun ku _ => l.length - (intOf ku).toNat)
                    case atStart => exact ⟨0, _, _, _, _, _, _, _, _, rfl, Nat.zero_le _, HK9.out, hrs⟩
                    case round =>
                      obtain ⟨k, Dk, Sk, Uk, tk, vk, lkk, sk, okk, rfl, hk, hkat, hlk2⟩ := hrel
                      have HKA := Lib.hid hkat
                      have HBX := hkat.sx.below
                      clear hkat HK9
                      have hcx : wr.cell? ⟨b0, o0 + i, none⟩ = some (.slice pj l.length cj) := (HBX.cell (p := ⟨b0, o0 + i, none⟩) hb0).trans HC.out
                      by_cases hkl : k < l.length
                      · as_aux_lemma => -- IN
                          obtain ⟨bs, os, rfl, hbs, hcs⟩ := HROW.out k (by rw [strs_length]; exact hkl)
                          rw [strs_at _ _ hkl] at hcs
                          have hcsx : wr.cell? ⟨bs, os + k, none⟩ = some (.string (B l[k])) := (HBX.cell (p := ⟨bs, os + k, none⟩) hbs).trans hcs
                          have HWK := Lib.hid (weight_succ l k hkl)
                          have HKL := Lib.hid hkl
                          have t4 : (k : Int) < (l.length : Int) := by omega
                          have t5 : 0 ≤ (k : Int) := by omega
                          have hx3 := HSI.out _ (List.getElem_mem hkl)
                          have HCO := Lib.hid (show 8 * (wsum (rs.take i) + weight (l.take k)) + (8 + (l[k]).length) ≤ 8 * (wsum (rs.take i) + weight (l.take (k + 1))) ∧ 8 * (wsum (rs.take i) + weight (l.take (k + 1))) ≤ 32768 from by
                            have h1 := weight_succ l k hkl
                            have h2 := weight_take_le l (k + 1)
                            have h3 := HWS.out
                            have h4 := HC6.out
                            omega)
                          clear hcs HWK
                          generalize l[k] = x at *
                          clear hkl
                          obtain ⟨r5, hr5⟩ : ∃ r, r = x.length % 5 := ⟨_, rfl⟩
                          obtain ⟨r3, hr3⟩ : ∃ r, r = x.length % 3 := ⟨_, rfl⟩
                          have m5 : ((x.length : Int).tmod 5) = (r5 : Int) := by rw [Int.tmod_eq_emod_of_nonneg (by omega)]; omega
                          have m3 : ((x.length : Int).tmod 3) = (r3 : Int) := by rw [Int.tmod_eq_emod_of_nonneg (by omega)]; omega
                          clear hr5 hr3 HBX
                          have hlk9 : lkk.length ≤ 1000 := by omega
                          by_cases h4 : r5 = 4
                          · as_aux_lemma => -- SAVE
                              have HLK := Lib.hid (show lkk.length ≤ 40 * i + (k + 1) by omega)
                              have HLK0 := Lib.hid (show ([] : List Key).length ≤ 40 * i + (k + 1) by simp)
                              rw [h4] at m5
                              have m5' : ((x.length : Int).tmod 5) = 4 := m5
                              clear m5 h4 m3
                              rcases HKA.out.save HL.out x (by omega) (by have := HCO.out; omega) with hA | hA | ⟨kk, hk0, hk7, hA⟩
                              · as_aux_lemma => -- SV1
                                  have HA := Lib.hid hA
                                  clear hA
                                  go_wp2_with fail
                                  with_reducible refine HA.out.mono ?_
                                  rintro e w3 ⟨rfl, D3, S3, U3, a1, a2, a3, a4⟩
                                  have HX := Lib.hid (And.intro a1 (And.intro a2 (And.intro (a3.le HCO.out.1) (a4.le HCO.out.1))))
                                  have f0 := (a2.now 0 (by omega)).1
                                  have f1 := (a2.now 1 (by omega)).1
                                  have f2 := (a2.now 2 (by omega)).1
                                  have e0 := (a2.now 0 (by omega)).2
                                  have e1 := (a2.now 1 (by omega)).2
                                  have e2 := (a2.now 2 (by omega)).2
                                  have lt3 := a2.lt.1
                                  simp only [keptCell] at f0 f1 f2
                                  clear a1 a2 a3 a4 HA HKA
                                  go_upto_region 39 with fail
                                  have H8 := Lib.hid (show SX w _ b sb D3 S3 U3 ∧ KMem w _ nb ob U3 x (.slice none 0 0) [] 0 okk from by
                                    obtain ⟨c1_, k1_⟩ := three_cells HX.out.2.1.now (g := keptCell x (.slice none 0 0) (0 : Nat)) (.string (B x)) (.slice none 0 0) (.int .i64 0) rfl rfl rfl
                                    exact kmem_now HX.out.1 HX.out.2.1 k1_ c1_ (Put2.none _ _ _) (fun k hk => by cases hk))
                                  have HY := Lib.hid HX.out.2.2
                                  clear f0 f1 f2 e0 e1 e2 lt3 HX
                                  generalize (((w3.setCell _ _).setCell _ _).setCell _ _) = w8 at *
                                  have p0 := (H8.out.2.oth 0 (by omega)).1
                                  have p1 := (H8.out.2.oth 1 (by omega)).1
                                  have p2 := (H8.out.2.oth 2 (by omega)).1
                                  have r0_ := (H8.out.2.oth 0 (by omega)).2
                                  have r1_ := (H8.out.2.oth 1 (by omega)).2
                                  have r2_ := (H8.out.2.oth 2 (by omega)).2
                                  have lt8 := H8.out.2.lt.2
                                  go_upto_region 33 with fail
                                  have H9 := Lib.hid (show KAt w _ b sb nb ob D3 S3 U3 x (.slice none 0 0) [] 0 none (8 * (wsum (rs.take i) + weight (l.take (k + 1)))) from by
                                    obtain ⟨c1_, k1_⟩ := three_cells H8.out.2.oth (g := othCell none) (.string ⟨#[]⟩) (.slice none 0 0) (.int .i64 (-1)) rfl rfl rfl
                                    obtain ⟨x1, x2⟩ := kmem_oth H8.out.1 H8.out.2 k1_ c1_
                                    exact ⟨x1, x2, HY.out.1, HY.out.2⟩)
                                  clear p0 p1 p2 r0_ r1_ r2_ lt8 H8 HY HLK
                                  generalize (((w8.setCell _ _).setCell _ _).setCell _ _) = w9 at *
                                  have HLK := HLK0
                                  go_wp2_with fail
                                  go_roundw
                                  case rel =>
                                    first
                                      | exact ⟨k + 1, _, _, _, _, _, _, _, _, by go_num, HKL.out, H9.out, by have := HLK.out; omega⟩
                                      | ((repeat apply Exists.intro); exact ⟨⟨k + 1, _, _, _, _, _, _, _, _, by go_num, HKL.out, H9.out, by have := HLK.out; omega⟩, rfl⟩)
                                  case measure => have := HKL.out; simp [intOf]; omega
                              · as_aux_lemma => -- SV2
                                  have HA := Lib.hid hA
                                  clear hA
                                  go_wp2_with fail
                                  with_reducible refine HA.out.mono ?_
                                  rintro e w3 ⟨rfl, D3, S3, U3, a1, a2, a3, a4⟩
                                  have HX := Lib.hid (And.intro a1 (And.intro a2 (And.intro (a3.le HCO.out.1) (a4.le HCO.out.1))))
                                  have p0 := (a2.oth 0 (by omega)).1
                                  have p1 := (a2.oth 1 (by omega)).1
                                  have p2 := (a2.oth 2 (by omega)).1
                                  have r0_ := (a2.oth 0 (by omega)).2
                                  have r1_ := (a2.oth 1 (by omega)).2
                                  have r2_ := (a2.oth 2 (by omega)).2
                                  have lt8 := a2.lt.2
                                  clear a1 a2 a3 a4 HA HKA
                                  go_upto_region 33 with fail
                                  have H9 := Lib.hid (show KAt w _ b sb nb ob D3 S3 U3 _ _ _ _ (some x) (8 * (wsum (rs.take i) + weight (l.take (k + 1)))) from by
                                    obtain ⟨c1_, k1_⟩ := three_cells HX.out.2.1.oth (g := othCell (some x)) (.string (B x)) (.slice none 0 0) (.int .i64 0) rfl rfl rfl
                                    obtain ⟨x1, x2⟩ := kmem_oth HX.out.1 HX.out.2.1 k1_ c1_
                                    exact ⟨x1, x2, HX.out.2.2.1, HX.out.2.2.2⟩)
                                  clear p0 p1 p2 r0_ r1_ r2_ lt8 HX
                                  generalize (((w3.setCell _ _).setCell _ _).setCell _ _) = w9 at *
                                  go_wp2_with fail
                                  go_roundw
                                  case rel =>
                                    first
                                      | exact ⟨k + 1, _, _, _, _, _, _, _, _, by go_num, HKL.out, H9.out, by have := HLK.out; omega⟩
                                      | ((repeat apply Exists.intro); exact ⟨⟨k + 1, _, _, _, _, _, _, _, _, by go_num, HKL.out, H9.out, by have := HLK.out; omega⟩, rfl⟩)
                                  case measure => have := HKL.out; simp [intOf]; omega
                              · as_aux_lemma => -- SV3
                                  have HA := Lib.hid hA
                                  have q0 : (kk == 0) = false := by simpa using hk0
                                  have q7 : (kk == 70) = false := by simpa using hk7
                                  clear hA hk0 hk7
                                  go_wp2_with fail
                                  with_reducible refine HA.out.mono ?_
                                  rintro e w8 ⟨rfl, D8, S8, U8, a1⟩
                                  have H9 := Lib.hid (a1.le HCO.out.1)
                                  clear a1 HA HKA
                                  go_wp2_with fail
                                  go_roundw
                                  case rel =>
                                    first
                                      | exact ⟨k + 1, _, _, _, _, _, _, _, _, by go_num, HKL.out, H9.out, by have := HLK.out; omega⟩
                                      | ((repeat apply Exists.intro); exact ⟨⟨k + 1, _, _, _, _, _, _, _, _, by go_num, HKL.out, H9.out, by have := HLK.out; omega⟩, rfl⟩)
                                  case measure => have := HKL.out; simp [intOf]; omega
                          · as_aux_lemma => -- APP
                              have q4 : ((r5 : Int) == 4) = false := by simpa using (by omega : ¬ (r5 : Int) = 4)
                              have q44 : (r5 == 4) = false := by simpa using h4
                              clear h4
                              rcases HKA.out.append HL.out x (by omega) (by have := HCO.out; omega) with hA | ⟨kk, hk0, hA⟩
                              · as_aux_lemma => -- AP1
                                  have HA := Lib.hid hA
                                  clear hA
                                  go_wp2_with fail
                                  with_reducible refine HA.out.mono ?_
                                  rintro e w3 ⟨rfl, D3, S3, U3, a1, a2, a3, a4⟩
                                  have HY := Lib.hid (And.intro (a3.le HCO.out.1) (a4.le HCO.out.1))
                                  obtain ⟨v5, w5, hra, ⟨p5, c5, rfl⟩, hnow5, hfin⟩ := append_kmem a1 a2 x (by omega)
                                  obtain ⟨pv, cv, rfl, -⟩ := a2.put.arg
                                  have HRA := Lib.hid hra
                                  have HFIN := Lib.hid (hfin _ (Kept.setCell (p := ⟨nb, 1, none⟩) (Kept.refl (fun i => i = nb) w5) (.inl rfl) (.slice p5 (lkk ++ [x]).length c5)) ((CellsAt.set hnow5 (i := 1) (by omega) (.slice p5 (lkk ++ [x]).length c5)).congr fun j hj => (by
                                    have : j = 0 ∨ j = 1 ∨ j = 2 := by omega
                                    rcases this with rfl | rfl | rfl <;> rfl)))
                                  have f1 := (a2.now 1 (by omega)).1
                                  have g1 := (hnow5 1 (by omega)).1
                                  have g1f := (hnow5 1 (by omega)).2
                                  have lt3 := a2.lt.1
                                  have lt5 := hnow5.lt (by omega)
                                  have HLK := Lib.hid (show (lkk ++ [x]).length ≤ 40 * i + (k + 1) by rw [List.length_append]; simp; omega)
                                  simp only [keptCell] at f1 g1
                                  clear a1 a2 a3 a4 hra hnow5 hfin HA HKA
                                  generalize hl5 : lkk ++ [x] = lk5 at *
                                  clear hl5
                                  go_upto_region 44 with (at_builtin; refine wpList_append_run2 rfl _ _ _ _ rfl rfl rfl HRA.out ?_)
                                  have H5 := Lib.hid (show KAt w _ b sb nb ob D3 S3 U3 _ _ _ _ _ (8 * (wsum (rs.take i) + weight (l.take (k + 1)))) from ⟨HFIN.out.1, HFIN.out.2, HY.out.1, HY.out.2⟩)
                                  clear f1 g1 g1f lt3 lt5 HRA HFIN HY
                                  generalize w5.setCell _ _ = w6 at *
                                  by_cases h3 : r3 = 0
                                  · rw [h3] at m3
                                    have m3' : ((x.length : Int).tmod 3) = 0 := m3
                                    clear m3 h3
                                    rcases H5.out.sync with hA | ⟨kk, hk0, hA⟩
                                    · have HA := Lib.hid hA
                                      clear hA
                                      go_wp2_with fail
                                      with_reducible refine HA.out.mono ?_
                                      rintro e w8 ⟨rfl, D8, S8, U8, a1, a2, a3, a4⟩
                                      have HX8 := Lib.hid (And.intro a1 (And.intro a2 (And.intro a3 a4)))
                                      obtain ⟨pz, cz, hvz, -⟩ := a2.put.arg
                                      first | subst hvz | clear hvz
                                      have f1 := (a2.now 1 (by omega)).1
                                      have f2 := (a2.now 2 (by omega)).1
                                      have e2 := (a2.now 2 (by omega)).2
                                      have lt8 := a2.lt.1
                                      simp only [keptCell] at f1 f2
                                      clear a1 a2 a3 a4 HA H5
                                      go_upto_region 33 with fail
                                      have H9 := Lib.hid (show KAt w _ b sb nb ob D8 S8 U8 _ _ _ _ _ _ from by
                                        obtain ⟨a1, a2, a3, a4⟩ := HX8.out
                                        have hc2 := (CellsAt.set a2.now (i := 2) (by omega) (.int .i64 (lk5.length : Nat))).congr (g := keptCell _ _ (lk5.length : Nat)) fun j hj => (by
                                          have : j = 0 ∨ j = 1 ∨ j = 2 := by omega
                                          rcases this with rfl | rfl | rfl <;> rfl)
                                        obtain ⟨x1, x2⟩ := kmem_now a1 a2 (Kept.setCell (p := ⟨nb, 2, none⟩) (Kept.refl (fun i => i = nb) w8) (.inl rfl) _) hc2 a2.put a2.apart
                                        exact ⟨x1, x2, a3, a4⟩)
                                      clear f1 f2 e2 lt8 HX8
                                      generalize w8.setCell _ _ = w9 at *
                                      go_wp2_with fail
                                      go_roundw
                                      case rel =>
                                        first
                                          | exact ⟨k + 1, _, _, _, _, _, _, _, _, by go_num, HKL.out, H9.out, by have := HLK.out; omega⟩
                                          | ((repeat apply Exists.intro); exact ⟨⟨k + 1, _, _, _, _, _, _, _, _, by go_num, HKL.out, H9.out, by have := HLK.out; omega⟩, rfl⟩)
                                      case measure => have := HKL.out; simp [intOf]; omega
                                    · have HA := Lib.hid hA
                                      have q0 : (kk == 0) = false := by simpa using hk0
                                      clear hA hk0
                                      go_wp2_with fail
                                      with_reducible refine HA.out.mono ?_
                                      rintro e w8 ⟨rfl, D8, S8, U8, a1⟩
                                      have H9 := Lib.hid a1
                                      clear a1 HA H5
                                      go_wp2_with fail
                                      go_roundw
                                      case rel =>
                                        first
                                          | exact ⟨k + 1, _, _, _, _, _, _, _, _, by go_num, HKL.out, H9.out, by have := HLK.out; omega⟩
                                          | ((repeat apply Exists.intro); exact ⟨⟨k + 1, _, _, _, _, _, _, _, _, by go_num, HKL.out, H9.out, by have := HLK.out; omega⟩, rfl⟩)
                                      case measure => have := HKL.out; simp [intOf]; omega
                                  · have q3 : ((r3 : Int) == 0) = false := by simpa using h3
                                    have q33 : (r3 == 0) = false := by simpa using h3
                                    clear h3
                                    go_wp2_with fail
                                    go_roundw
                                    case rel =>
                                      first
                                        | exact ⟨k + 1, _, _, _, _, _, _, _, _, by go_num, HKL.out, H5.out, by have := HLK.out; omega⟩
                                        | ((repeat apply Exists.intro); exact ⟨⟨k + 1, _, _, _, _, _, _, _, _, by go_num, HKL.out, H5.out, by have := HLK.out; omega⟩, rfl⟩)
                                    case measure => have := HKL.out; simp [intOf]; omega
                              · as_aux_lemma => -- AP2
                                  have HA := Lib.hid hA
                                  have q0 : (kk == 0) = false := by simpa using hk0
                                  have HLK := Lib.hid (show lkk.length ≤ 40 * i + (k + 1) by omega)
                                  clear hA hk0
                                  go_wp2_with fail
                                  with_reducible refine HA.out.mono ?_
                                  rintro e w6 ⟨rfl, D6, S6, U6, a1⟩
                                  have H5 := Lib.hid (a1.le HCO.out.1)
                                  clear a1 HA HKA
                                  by_cases h3 : r3 = 0
                                  · rw [h3] at m3
                                    have m3' : ((x.length : Int).tmod 3) = 0 := m3
                                    clear m3 h3
                                    rcases H5.out.sync with hA | ⟨kk, hk0, hA⟩
                                    · have HA := Lib.hid hA
                                      clear hA
                                      go_wp2_with fail
                                      with_reducible refine HA.out.mono ?_
                                      rintro e w8 ⟨rfl, D8, S8, U8, a1, a2, a3, a4⟩
                                      have HX8 := Lib.hid (And.intro a1 (And.intro a2 (And.intro a3 a4)))
                                      obtain ⟨pz, cz, hvz, -⟩ := a2.put.arg
                                      first | subst hvz | clear hvz
                                      have f1 := (a2.now 1 (by omega)).1
                                      have f2 := (a2.now 2 (by omega)).1
                                      have e2 := (a2.now 2 (by omega)).2
                                      have lt8 := a2.lt.1
                                      simp only [keptCell] at f1 f2
                                      clear a1 a2 a3 a4 HA H5
                                      go_upto_region 33 with fail
                                      have H9 := Lib.hid (show KAt w _ b sb nb ob D8 S8 U8 _ _ _ _ _ _ from by
                                        obtain ⟨a1, a2, a3, a4⟩ := HX8.out
                                        have hc2 := (CellsAt.set a2.now (i := 2) (by omega) (.int .i64 (lkk.length : Nat))).congr (g := keptCell _ _ (lkk.length : Nat)) fun j hj => (by
                                          have : j = 0 ∨ j = 1 ∨ j = 2 := by omega
                                          rcases this with rfl | rfl | rfl <;> rfl)
                                        obtain ⟨x1, x2⟩ := kmem_now a1 a2 (Kept.setCell (p := ⟨nb, 2, none⟩) (Kept.refl (fun i => i = nb) w8) (.inl rfl) _) hc2 a2.put a2.apart
                                        exact ⟨x1, x2, a3, a4⟩)
                                      clear f1 f2 e2 lt8 HX8
                                      generalize w8.setCell _ _ = w9 at *
                                      go_wp2_with fail
                                      go_roundw
                                      case rel =>
                                        first
                                          | exact ⟨k + 1, _, _, _, _, _, _, _, _, by go_num, HKL.out, H9.out, by have := HLK.out; omega⟩
                                          | ((repeat apply Exists.intro); exact ⟨⟨k + 1, _, _, _, _, _, _, _, _, by go_num, HKL.out, H9.out, by have := HLK.out; omega⟩, rfl⟩)
                                      case measure => have := HKL.out; simp [intOf]; omega
                                    · have HA := Lib.hid hA
                                      have q0 : (kk == 0) = false := by simpa using hk0
                                      clear hA hk0
                                      go_wp2_with fail
                                      with_reducible refine HA.out.mono ?_
                                      rintro e w8 ⟨rfl, D8, S8, U8, a1⟩
                                      have H9 := Lib.hid a1
                                      clear a1 HA H5
                                      go_wp2_with fail
                                      go_roundw
                                      case rel =>
                                        first
                                          | exact ⟨k + 1, _, _, _, _, _, _, _, _, by go_num, HKL.out, H9.out, by have := HLK.out; omega⟩
                                          | ((repeat apply Exists.intro); exact ⟨⟨k + 1, _, _, _, _, _, _, _, _, by go_num, HKL.out, H9.out, by have := HLK.out; omega⟩, rfl⟩)
                                      case measure => have := HKL.out; simp [intOf]; omega
                                  · have q3 : ((r3 : Int) == 0) = false := by simpa using h3
                                    have q33 : (r3 == 0) = false := by simpa using h3
                                    clear h3
                                    go_wp2_with fail
                                    go_roundw
                                    case rel =>
                                      first
                                        | exact ⟨k + 1, _, _, _, _, _, _, _, _, by go_num, HKL.out, H5.out, by have := HLK.out; omega⟩
                                        | ((repeat apply Exists.intro); exact ⟨⟨k + 1, _, _, _, _, _, _, _, _, by go_num, HKL.out, H5.out, by have := HLK.out; omega⟩, rfl⟩)
                                    case measure => have := HKL.out; simp [intOf]; omega
                      · as_aux_lemma => -- END
                          have t4 : ¬ (k : Int) < (l.length : Int) := by omega
                          obtain rfl : k = l.length := by omega
                          rw [List.take_length] at HKA
                          obtain ⟨T9, hr9⟩ := HKA.out.rat
                          have HRA := Lib.hid (show RAt w wr b nb ob Dk T9 tk vk lkk sk okk (8 * wsum (rs.take (i + 1))) from by rw [HWS.out]; exact hr9)
                          have HLN := Lib.hid (show lkk.length ≤ 40 * (i + 1) by omega)
                          clear hr9 HKA HBX hkl
                          by_cases hki : i < keep.length
                          · have ki1 : (i : Int) < (keep.length : Int) := by omega
                            obtain ⟨kz, hkz⟩ : ∃ kz, kz = keep.length - 1 := ⟨_, rfl⟩
                            have kl1 : kz < keep.length := by omega
                            obtain ⟨gk, ok, hkp, hck⟩ := HK.out.1 i hki
                            obtain ⟨gk2, ok2, hkp2, hcl⟩ := HK.out.1 kz kl1
                            rw [hkp] at hkp2
                            injection hkp2 with hkp2
                            injection hkp2 with e1 e2
                            subst e1 e2 hkp
                            have hgk : gk < w.heap.size := lt_of_cell hck
                            have hckw : wr.cell? ⟨gk, ok + i, none⟩ = some (.int .i64 keep[i]) := (HRA.out.dx.below.cell (p := ⟨gk, ok + i, none⟩) hgk).trans hck
                            have hclw : wr.cell? ⟨gk, ok + kz, none⟩ = some (.int .i64 keep[kz]) := (HRA.out.dx.below.cell (p := ⟨gk, ok + kz, none⟩) hgk).trans hcl
                            have hgw : gk < wr.heap.size := lt_of_cell hckw
                            have HCR := Lib.hid (HRA.out.crash3 (by have := HC6.out; omega) keep[i] keep[i] keep[kz] (HK.out.2 _ (List.getElem_mem hki)) (HK.out.2 _ (List.getElem_mem hki)) (HK.out.2 _ (List.getElem_mem kl1)))
                            have kw : (keep.length : Int) - 1 = (kz : Int) := by omega
                            have kz0 : 0 ≤ (kz : Int) := by omega
                            have kz1 : (kz : Int) < (keep.length : Int) := by omega
                            have i0 : 0 ≤ (i : Int) := by omega
                            have kww : IntKind.i64.wrap (kz : Int) = (kz : Int) := by rw [IntKind.wrap_i64]; omega
                            have HCK := Lib.hid (And.intro hck hcl)
                            clear hck hcl
                            generalize keep[i] = kx at *
                            generalize keep[kz] = ky at *
                            clear hkz kl1
                            go_wp2_with fail
                            have HCR2 := Lib.hid (show Calls Tryz.prog 17 #[.pointer (some ⟨b, 0, none⟩), .slice (some ⟨wr.heap.size, 0, none⟩) 3 3] ((wr.alloc (.cells #[.int .i64 kx, .int .i64 kx, .int .i64 ky] 3)).drew) _ from HCR.out wr.drew (Below.refl _ _).drew)
                            go_region_held3 (fun W => W.cell? ⟨gk, ok + i, none⟩ = some (.int .i64 kx) ∧ W.cell? ⟨gk, ok + kz, none⟩ = some (.int .i64 ky)) (first | go_keep | exact ⟨(h9.below.cell (p := ⟨gk, ok + i, none⟩) hgk).trans HCK.out.1, (h9.below.cell (p := ⟨gk, ok + kz, none⟩) hgk).trans HCK.out.2⟩)
                              ((go_at_call 17; with_reducible refine HCR2.out.mono ?_; rintro e9 w9 ⟨rfl, D9, T9, h9, m9, a9, p9⟩))
                            have H9 := Lib.hid (And.intro h9 (And.intro m9 (And.intro a9 p9)))
                            clear h9 m9 a9 p9 HCR HCR2 HRA hckw hclw kw kww kz0 kz1
                            by_cases hfi : i < fz.length
                            · have fi1 : (i : Int) < (fz.length : Int) := by omega
                              obtain ⟨gf, of_, rfl, hgf, hcf⟩ := HF.out i hfi
                              have hcfw : w9.cell? ⟨gf, of_ + i, none⟩ = some (.int .u8 (fz[i].toNat : Int)) := (H9.out.1.below.cell (p := ⟨gf, of_ + i, none⟩) hgf).trans hcf
                              have hfb : fz[i].toNat < 256 := Crc.u8_lt _
                              have HFU := Lib.hid (RAt.fuse H9.out.1 H9.out.2.1 H9.out.2.2.1 H9.out.2.2.2 fz[i].toNat hfb)
                              clear hcf
                              generalize fz[i].toNat = fx at *
                              go_wp2_with fail
                              with_reducible refine HFU.out.mono ?_
                              rintro e8 wz ⟨rfl, D8, T8, h8, m8, a8, p8⟩
                              have H8 := Lib.hid (And.intro h8 (And.intro m8 (And.intro a8 p8)))
                              clear h8 m8 a8 p8 HFU H9 hcfw
                              go_wp2_with fail
                              go_roundw
                              case rel =>
                                first
                                  | exact ⟨i + 1, D8, T8, _, _, _, _, _, by go_num, HIL.out, H8.out.1, H8.out.2.1, H8.out.2.2.1, H8.out.2.2.2, HLN.out⟩
                                  | ((repeat apply Exists.intro); exact ⟨⟨i + 1, D8, T8, _, _, _, _, _, by go_num, HIL.out, H8.out.1, H8.out.2.1, H8.out.2.2.1, H8.out.2.2.2, HLN.out⟩, rfl⟩)
                              case measure => have := HIL.out; simp [intOf]; omega
                            · have fi1 : ¬ (i : Int) < (fz.length : Int) := by omega
                              go_wp2_with fail
                              go_roundw
                              case rel =>
                                first
                                  | exact ⟨i + 1, D9, T9, _, _, _, _, _, by go_num, HIL.out, H9.out.1, H9.out.2.1, H9.out.2.2.1, H9.out.2.2.2, HLN.out⟩
                                  | ((repeat apply Exists.intro); exact ⟨⟨i + 1, D9, T9, _, _, _, _, _, by go_num, HIL.out, H9.out.1, H9.out.2.1, H9.out.2.2.1, H9.out.2.2.2, HLN.out⟩, rfl⟩)
                              case measure => have := HIL.out; simp [intOf]; omega
                          · have ki1 : ¬ (i : Int) < (keep.length : Int) := by omega
                            have HCR := Lib.hid (HRA.out.crash0 (by have := HC6.out; omega))
                            go_wp2_with fail
                            with_reducible refine HCR.out.mono ?_
                            rintro e9 w9 ⟨rfl, D9, T9, h9, m9, a9, p9⟩
                            have H9 := Lib.hid (And.intro h9 (And.intro m9 (And.intro a9 p9)))
                            clear h9 m9 a9 p9 HCR HRA
                            by_cases hfi : i < fz.length
                            · have fi1 : (i : Int) < (fz.length : Int) := by omega
                              obtain ⟨gf, of_, rfl, hgf, hcf⟩ := HF.out i hfi
                              have hcfw : w9.cell? ⟨gf, of_ + i, none⟩ = some (.int .u8 (fz[i].toNat : Int)) := (H9.out.1.below.cell (p := ⟨gf, of_ + i, none⟩) hgf).trans hcf
                              have hfb : fz[i].toNat < 256 := Crc.u8_lt _
                              have HFU := Lib.hid (RAt.fuse H9.out.1 H9.out.2.1 H9.out.2.2.1 H9.out.2.2.2 fz[i].toNat hfb)
                              clear hcf
                              generalize fz[i].toNat = fx at *
                              go_wp2_with fail
                              with_reducible refine HFU.out.mono ?_
                              rintro e8 wz ⟨rfl, D8, T8, h8, m8, a8, p8⟩
                              have H8 := Lib.hid (And.intro h8 (And.intro m8 (And.intro a8 p8)))
                              clear h8 m8 a8 p8 HFU H9 hcfw
                              go_wp2_with fail
                              go_roundw
                              case rel =>
                                first
                                  | exact ⟨i + 1, D8, T8, _, _, _, _, _, by go_num, HIL.out, H8.out.1, H8.out.2.1, H8.out.2.2.1, H8.out.2.2.2, HLN.out⟩
                                  | ((repeat apply Exists.intro); exact ⟨⟨i + 1, D8, T8, _, _, _, _, _, by go_num, HIL.out, H8.out.1, H8.out.2.1, H8.out.2.2.1, H8.out.2.2.2, HLN.out⟩, rfl⟩)
                              case measure => have := HIL.out; simp [intOf]; omega
                            · have fi1 : ¬ (i : Int) < (fz.length : Int) := by omega
                              go_wp2_with fail
                              go_roundw
                              case rel =>
                                first
                                  | exact ⟨i + 1, D9, T9, _, _, _, _, _, by go_num, HIL.out, H9.out.1, H9.out.2.1, H9.out.2.2.1, H9.out.2.2.2, HLN.out⟩
                                  | ((repeat apply Exists.intro); exact ⟨⟨i + 1, D9, T9, _, _, _, _, _, by go_num, HIL.out, H9.out.1, H9.out.2.1, H9.out.2.2.1, H9.out.2.2.2, HLN.out⟩, rfl⟩)
                              case measure => have := HIL.out; simp [intOf]; omega
          · have t2 : ¬ (i : Int) < (rs.length : Int) := by omega
            have HBW := Lib.hid hx.below
            clear hx hm ha hc
            go_wp2_with fail
            with_reducible refine (SWorks_f _ (HL.out.next HBW.out)).mono ?_
            rintro e w8 ⟨rfl, hb8⟩
            have HB8 := Lib.hid (HBW.out.trans (hb8.mono HBW.out.size))
            clear hb8
            go_wp2
            go_ret
            exact ⟨rfl, HB8.out⟩
end Go.Proofs.YtmejdcnnpenaaaaGreatDoor.St
