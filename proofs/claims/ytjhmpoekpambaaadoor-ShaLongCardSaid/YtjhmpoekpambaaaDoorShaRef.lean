/-
  The document's digest of layer 4 (Of), walked: it is the code's.
-/
import Derived.Test.YtjhmpoekpambaaaDoorShaBlock
open Go Go.RowKit
namespace Go.Proofs.YtjhmpoekpambaaaDoor.Sha
open Base
attribute [local go_sem ↓] Go.wp_at_zero Go.wp_at_succ

theorem padB_length (s : List UInt8) : (padB s).length = 9 + nulls s := by simp [padB, eightB]; omega
theorem whole_length (s : List UInt8) : (s ++ padB s).length = 64 * ((s ++ padB s).length / 64) := by
  have h : (s ++ padB s).length % 64 = 0 := by
    rw [List.length_append, padB_length]
    unfold nulls
    omega
  omega
theorem out_take (st : S8) (i : Nat) (h : i < 8) : (out st).take (4 * (i + 1)) = (out st).take (4 * i) ++ [outB st (4 * i), outB st (4 * i + 1), outB st (4 * i + 2), outB st (4 * i + 3)] := by
  have hl : (out st).length = 32 := by simp [out]
  have g : ∀ j (hj : j < 32), (out st)[j]'(by omega) = outB st j := fun j hj => by simp [out]
  rw [show 4 * (i + 1) = 4 * i + 1 + 1 + 1 + 1 by omega, List.take_succ_eq_append_getElem (by omega), List.take_succ_eq_append_getElem (by omega), List.take_succ_eq_append_getElem (by omega), List.take_succ_eq_append_getElem (by omega)]
  rw [g _ (by omega), g _ (by omega), g _ (by omega), g _ (by omega)]
  simp
theorem wrap_u8 (n : Int) : IntKind.u8.wrap n = n % 256 := by
  unfold IntKind.wrap
  simp [IntKind.signed, IntKind.bits]
set_option maxHeartbeats 4000000 in
set_option maxRecDepth 100000 in
theorem rOf_calls (w : World) (s : List UInt8) (hs : s.length < 1152921504606) :
    Calls Tryd.prog 9 #[.string (B s)] w fun e w' => e = .returned (.string (B (digest s))) ∧ Below w.heap.size w w' := by
  obtain ⟨i0, hi, hz0, hz1, hz2⟩ := info_parts infoU8
  have HPL := Lib.hid (padB_length s)
  have HWL := Lib.hid (whole_length s)
  go_enter Tryd.func9, Tryd.ntmps9
  go_wp2_with fail
  refine (Constants_calls w).mono ?_
  rintro e w1 ⟨kv, hv, rfl, hok, hoh, hb1⟩
  obtain ⟨gk, ck, rfl, hk1, hk2, hk3, hk4, hkc⟩ := own_cells hok (by omega)
  obtain ⟨gh, ch, rfl, hh1, hh2, hh3, hhc⟩ := own_cellsAt (f := scell H0) hoh (by omega) (fun j hj => by
    have hj8 : j < 8 := hj
    match j, hj8 with
    | 0, _ => rfl
    | 1, _ => rfl
    | 2, _ => rfl
    | 3, _ => rfl
    | 4, _ => rfl
    | 5, _ => rfl
    | 6, _ => rfl
    | 7, _ => rfl)
  have HB1 := Lib.hid hb1
  have HKC := Lib.hid hkc
  have HHC := Lib.hid hhc
  clear hok hoh hb1 hkc hhc hk3 hk4 hh3
  go_wp2_with fail
  refine (Padded_calls s _ hs).mono ?_
  rintro e w2 ⟨v, rfl, hown, hb2⟩
  obtain ⟨g, cap, rfl, hg1, hg2, hg3, hg4, hby⟩ := hown.form
  have HB2 := Lib.hid (later HB1.out hb2)
  have HKC2 := Lib.hid (show ∀ j, j < 64 → w2.cell? ⟨gk, j, none⟩ = some (.int .u32 (U (Ks.getD j 0))) from fun j hj => (hb2.cell (p := ⟨gk, j, none⟩) hk2).trans (HKC.out j hj))
  have HHC2 := Lib.hid (show CellsAt w2 gh 8 (scell H0) from CellsAt.below HHC.out hb2 hh2)
  have HBY := Lib.hid hby
  have hkl : gk < w2.heap.size := Nat.lt_of_lt_of_le hk2 hb2.size
  have hhl : gh < w2.heap.size := Nat.lt_of_lt_of_le hh2 hb2.size
  have HL := Lib.hid (And.intro hkl (And.intro hhl hg2))
  have HDG := Lib.hid (show digest s = out (stK (s ++ padB s) ((s ++ padB s).length / 64)) from rfl)
  have hwl := HWL.out
  have hlen : (s ++ padB s).length < 1152921504806 := by
    rw [List.length_append, HPL.out]
    have : nulls s < 64 := by unfold nulls; omega
    omega
  clear hown hb2 hby hkl hhl hk1 hk2 hh1 hh2 hg1 hg2 hg4 HB1 HKC HHC hs HPL HWL
  generalize s ++ padB s = p at *
  generalize hM : p.length / 64 = M at *
  have HM := Lib.hid hM
  rw [hwl] at hg3
  rw [hwl]
  have hM2 : M < 18014398600 := by omega
  have HPM := Lib.hid hwl
  clear hM hwl hlen
  go_wp2
  go_loopw [4, 6] (fun v u wr => ∃ q V cv : Nat, u = .int .i64 ((64 * q : Nat) : Int) ∧ q ≤ M ∧ v = .slice (some ⟨V, 0, none⟩) 8 cv ∧ V < wr.heap.size ∧ CellsAt wr V 8 (scell (stK p q)) ∧ Below w2.heap.size w2 wr) (fun _ u _ => 64 * M - (intOf u).toNat)
  case atStart => exact ⟨0, gh, ch, rfl, by omega, rfl, HL.out.2.1, HHC2.out, Below.refl _ _⟩
  case round =>
    obtain ⟨q, V, cv, rfl, hq, rfl, hV, hc, hb⟩ := hrel
    clear HHC2
    have HC := Lib.hid hc
    have HB := Lib.hid hb
    have HV := Lib.hid hV
    clear hc hb hV
    by_cases hlt : q < M
    · have HBC := Lib.hid (block_calls wr (stK p q) ((p.drop (64 * q)).take 64) V 0 cv gk 0 ck g (64 * q) (cap - 64 * q) (fun j hj => by rw [Nat.zero_add]; exact (HC.out j hj).1)
        (fun j hj => by rw [Nat.zero_add]; exact (HB.out.cell (p := ⟨gk, j, none⟩) HL.out.1).trans (HKC2.out j hj))
        (fun j hj => by
          have hjl : 64 * q + j < p.length := by rw [HPM.out]; omega
          rw [(HB.out.cell (p := ⟨g, 64 * q + j, none⟩) HL.out.2.2).trans (HBY.out (64 * q + j) hjl).1]
          have : j < ((p.drop (64 * q)).take 64).length := by rw [List.length_take, List.length_drop, HPM.out]; omega
          simp [List.getD_eq_getElem?_getD, hj, hjl]))
      have HST := Lib.hid (show stK p (q + 1) = mixF (stK p q) ((p.drop (64 * q)).take 64) from rfl)
      have t1 : ((64 * q : Nat) : Int) < ((64 * M : Nat) : Int) := by omega
      have t2 : ((64 * q : Nat) : Int) + 64 ≤ (cap : Int) := by omega
      have hle : 64 * q + 64 ≤ cap := by omega
      have hq64 : 64 * q < 1152921520000 := by omega
      obtain ⟨Q, hQ⟩ : ∃ Q, Q = 64 * q := ⟨_, rfl⟩
      obtain ⟨L, hL⟩ : ∃ L, L = 64 * M := ⟨_, rfl⟩
      rw [← hQ] at t1 t2 hle hq64 ⊢
      rw [← hQ] at HBC HST
      rw [← hL] at t1 ⊢
      have HQ := Lib.hid hQ
      have HLL := Lib.hid hL
      clear hg3 hQ hL hq
      have hsub : Q + 64 - Q = 64 := by omega
      go_wp2_with fail
      refine HBC.out.mono ?_
      rintro e w5 ⟨V5, cv5, rfl, hc5, hV5, hb5⟩
      have HC5 := Lib.hid (show CellsAt w5 V5 8 (scell (stK p (q + 1))) by rw [HST.out]; exact hc5)
      have HB5 := Lib.hid (later HB.out hb5)
      have HV5 := Lib.hid (hc5.lt (by omega))
      clear hc5 hV5 hb5 HBC hsub
      go_wp2
      go_roundw
      case rel => exact ⟨q + 1, V5, cv5, by rw [HQ.out]; go_num, by have := HQ.out; have := HLL.out; omega, rfl, HV5.out, HC5.out, HB5.out⟩
      case measure => simp [intOf]; have := HQ.out; have := HLL.out; omega
    · obtain rfl : q = M := by omega
      have HDD := Lib.hid (show digest s = out (stK p q) by rw [HDG.out])
      generalize stK p q = st at *
      have HB6 := Lib.hid (later HB2.out HB.out)
      clear hg3 hM2 hq hlt HDG HBY
      obtain ⟨L, hL⟩ : ∃ L, L = 64 * q := ⟨_, rfl⟩
      rw [← hL]
      clear hL
      go_wp2
      generalize hw0 : wr = wx at *
      clear hw0
      go_loopw [7, 8] (fun v u wt => ∃ i : Nat, u = .int .i64 i ∧ i ≤ 8 ∧ wt.ownsRow wx.heap.size 5 1 v (4 * i) (byteV ((out st).take (4 * i))) ∧ Below wx.heap.size wx wt) (fun _ u _ => 8 - (intOf u).toNat)
      case atStart => exact ⟨0, rfl, by omega, World.ownsRow_nil wx wx.heap.size 5 1, Below.refl _ _⟩
      case round =>
        obtain ⟨i, rfl, hi8, hown, hb⟩ := hrel
        have HO := Lib.hid hown
        have HBX := Lib.hid hb
        have HSZ := Lib.hid hb.size
        clear hown hb
        by_cases hlt : i < 8
        · have hc : wr.cell? ⟨V, i, none⟩ = some (.int .u32 (U (st.get i))) := (HBX.out.cell (p := ⟨V, i, none⟩) HV.out).trans (HC.out i hlt).1
          have HCX := Lib.hid (show wx.cell? ⟨V, i, none⟩ = some (.int .u32 (U (st.get i))) from (HC.out i hlt).1)
          have b0 : IntKind.u8.wrap (U (st.get i) / 16777216) = ((outB st (4 * i)).toNat : Int) := by rw [wrap_u8, ob0]
          have b1 : IntKind.u8.wrap (U (st.get i) / 65536) = ((outB st (4 * i + 1)).toNat : Int) := by rw [wrap_u8, ob1]
          have b2 : IntKind.u8.wrap (U (st.get i) / 256) = ((outB st (4 * i + 2)).toNat : Int) := by rw [wrap_u8, ob2]
          have b3 : IntKind.u8.wrap (U (st.get i)) = ((outB st (4 * i + 3)).toNat : Int) := by rw [wrap_u8, ob3]
          have HOT := Lib.hid (out_take st i hlt)
          have t1 : (i : Int) < 8 := by omega
          generalize outB st (4 * i) = o0 at *
          generalize outB st (4 * i + 1) = o1 at *
          generalize outB st (4 * i + 2) = o2 at *
          generalize outB st (4 * i + 3) = o3 at *
          generalize st.get i = x at *
          generalize (out st).take (4 * i) = os at *
          have HLT := Lib.hid hlt
          clear hlt hi8
          go_wp2
          go_region_held3 (fun W => W.cell? ⟨V, i, none⟩ = some (.int .u32 (U x)))
            (first | go_keep | exact (hb1.cell (p := ⟨V, i, none⟩) HV.out).trans HCX.out)
            ((refine step_append_keeps (by rfl) _ _ _ (by rfl) wx.heap.size 5 i0 _ 1 Tryd.underlying35 hi hz0 hz1 hz2 rfl _ (4 * i) (byteV os) (by rfl) ((HO.out.alloc _).drew)
                ⟨wr.heap.size, 0, none⟩ 4 4 [.int .u8 (o0.toNat : Int), .int .u8 (o1.toNat : Int), .int .u8 (o2.toNat : Int), .int .u8 (o3.toNat : Int)] (by rfl) (by rfl) (World.news_of_block (cs := #[.int .u8 (o0.toNat : Int), .int .u8 (o1.toNat : Int), .int .u8 (o2.toNat : Int), .int .u8 (o3.toNat : Int)]) (t := 5) (fr := (0, 0)) (heap_alloc_new wr _)) (by simp [Value.oneCell'])
                (by omega) (by unfold maxLen; have := HLT.out; omega) (by have := HLT.out; omega) (by simp; have := HSZ.out; omega) ?_; intro gg cap' w1 hown1 hgrow hat hkeep; have hb1 : Below wx.heap.size wx w1 := ((HBX.out.alloc HSZ.out _).drew).grown hgrow (by have := HSZ.out; simp; omega) (fun q hq => (HO.out.lt q hq).1)))
          have HO2 := Lib.hid hown1
          have HB2 := Lib.hid hb1
          clear hown1 hb1 hgrow hat hkeep hc b0 b1 b2 b3
          go_wp2
          go_roundw
          case rel => exact ⟨i + 1, by go_num, HLT.out, by rw [HOT.out]; have h := HO2.out; rw [show byteV (os ++ [o0, o1, o2, o3]) = byteV os ++ [.int .u8 (o0.toNat : Int), .int .u8 (o1.toNat : Int), .int .u8 (o2.toNat : Int), .int .u8 (o3.toNat : Int)] by simp [byteV]]; exact h, HB2.out⟩
          case measure => simp [intOf]; have := HLT.out; omega
        · obtain rfl : i = 8 := by omega
          have ho := HO.out
          rw [show 4 * 8 = 32 from rfl, List.take_of_length_le (by simp [out])] at ho
          obtain ⟨g2, cap2, rfl, -, -, -, hcc⟩ := own_cellsAt (f := fun j => .int .u8 (((out st).getD j 0).toNat : Int)) ho (by omega) (fun j hj => by
            rw [byteV_length] at hj
            simp [byteV, hj])
          have hby : BytesAt wr g2 (out st) := fun j hj => by
            have h := hcc j (by simpa [out] using hj)
            refine ⟨?_, h.2⟩
            rw [h.1]
            simp [hj]
          have hcv := hby.back (P := Tryd.prog) 35 9 5 32 cap2 (by simp [out]) Tryd.underlying35 Tryd.underlying5 Tryd.underlying9
          have HBF := Lib.hid (later HB6.out HBX.out)
          clear ho hcc hby hi8 hlt HO
          rw [← HDD.out] at hcv
          clear HDD
          go_wp2
          go_ret
          exact ⟨rfl, HBF.out⟩
end Go.Proofs.YtjhmpoekpambaaaDoor.Sha
