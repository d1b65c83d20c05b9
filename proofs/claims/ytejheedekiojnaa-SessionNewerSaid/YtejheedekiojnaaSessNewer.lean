/-
  The walk of SessionNewer (layer 28).
-/
import Derived.Test.YtejheedekiojnaaSessDrop
import Derived.Test.YtejheedekiojnaaSessPhase
open Go Go.RowKit
namespace Go.Proofs.Ytejheedekiojnaa.Sess
open Base Mp

/-- What a session holds of a text of which the first k parts came. -/
def stS (x t : List UInt8) (id size k : Nat) : St := if k = 0 then [] else [(keyS x, upto t id size k)]
theorem sput_stS (x t : List UInt8) (id size k : Nat) (hs0 : 0 < size) (hs : size ≤ 4096) (hN : cutN t.length size ≤ 256) (hk : k < cutN t.length size) :
    sput (stS x t id size k) x (partOf t id size (cutN t.length size) k) = if k + 1 < cutN t.length size then (stS x t id size (k + 1), [], false, 0) else ([], t, true, 0) := by
  unfold stS
  rw [if_neg (by omega : ¬ k + 1 = 0)]
  by_cases h : k = 0
  · subst h
    rw [if_pos rfl, sput_first x t id size hs0 hs hN]
  · rw [if_neg h, sput_next x t id size k hs0 hs hN hk]
theorem sput_over (x t t' : List UInt8) (id id' size k : Nat) (hs : size ≤ 4096) (hN : cutN t.length size ≤ 256) (hid : id' < id) :
    sput (stS x t' id' size k) x (partOf t id size (cutN t.length size) 0) = sput (stS x t id size 0) x (partOf t id size (cutN t.length size) 0) := by
  unfold stS
  rw [if_pos rfl]
  split
  · rfl
  · exact sput_newer x t id size _ hs hN hid
theorem sput_stale (x t t' : List UInt8) (id id' size k : Nat) (hk : 0 < k) (hs : size ≤ 4096) (hN : cutN t'.length size ≤ 256) (hid : id' < id) :
    sput (stS x t id size k) x (partOf t' id' size (cutN t'.length size) 0) = (stS x t id size k, [], false, 3) := by
  unfold stS
  rw [if_neg (by omega)]
  exact sput_older x t' id' size 0 _ hs hN (cutN_pos _ _) hid
theorem drop_all (x t : List UInt8) (id size : Nat) (hs0 : 0 < size) (hs : size ≤ 4096) (hN : cutN t.length size ≤ 256) : delL (sput [] x (partOf t id size (cutN t.length size) 0)).1 (keyS x) = [] := by
  rw [sput_first x t id size hs0 hs hN]
  split
  · exact del_one _ _
  · rfl
theorem cut_cells {w : World} {b : Nat} {t : List UInt8} {id size : Nat} (h : PartsAt w b (cutT t id size)) (k : Nat) (hk : k < cutN t.length size) :
    w.cell? ⟨b, k * 4, none⟩ = some (.int .u64 (id : Int)) ∧ w.cell? ⟨b, k * 4 + 1, none⟩ = some (.int .i64 (k : Int)) ∧ w.cell? ⟨b, k * 4 + 2, none⟩ = some (.int .i64 (cutN t.length size : Nat)) ∧ w.cell? ⟨b, k * 4 + 3, none⟩ = some (.string (B (piece t size k))) := by
  have hlen : (cutT t id size).length = cutN t.length size := by simp [cutT]
  have e : ∀ j, j / 4 = k → w.cell? ⟨b, j, none⟩ = some (cellP (partOf t id size (cutN t.length size) k) (j % 4)) := by
    intro j hj
    rw [(h j (by rw [hlen]; omega)).1]
    show some (cellP ((cutT t id size)[j / 4]?.getD noPart) (j % 4)) = _
    rw [hj]
    simp [cutT, hk]
  refine ⟨?_, ?_, ?_, ?_⟩
  · rw [e (k * 4) (by omega), show k * 4 % 4 = 0 by omega]; rfl
  · rw [e (k * 4 + 1) (by omega), show (k * 4 + 1) % 4 = 1 by omega]; rfl
  · rw [e (k * 4 + 2) (by omega), show (k * 4 + 2) % 4 = 2 by omega]; rfl
  · rw [e (k * 4 + 3) (by omega), show (k * 4 + 3) % 4 = 3 by omega]; rfl
/-- Put of a part of a cut text. -/
theorem Put_part (w : World) (m : Nat) (S : St) (x t : List UInt8) (id size k : Nat) (h : Solo w m S) (hx : x.length ≤ maxLen) (hs : size ≤ 4096) (hN : cutN t.length size ≤ 256) (hk : k < cutN t.length size) :
    Calls Try.prog 11 #[.pointer (some ⟨m + 1, 0, none⟩), .string (B x), .agg #[.int .u64 (id : Int), .int .i64 (k : Int), .int .i64 (cutN t.length size : Nat), .string (B (piece t size k))]] w fun e w' =>
      e = .returned (putV (sput S x (partOf t id size (cutN t.length size) k))) ∧ Solo w' m (sput S x (partOf t id size (cutN t.length size) k)).1 ∧ Below m w w' := by
  have hp := piece_le t size k
  refine Put_solo w m S x (partOf t id size (cutN t.length size) k) h hx ?_ ?_ ?_
  · simp only [partOf]; omega
  · simp only [partOf]; omega
  · simp only [partOf]; unfold maxLen; omega

/-- What a session holds behind k parts of the older text and j of the newer one. -/
def stN (x t u : List UInt8) (size k j : Nat) : St := if j = 0 then stS x t 5 size k else if j < cutN u.length size then stS x u 6 size j else []
theorem sput_stN (x t u : List UInt8) (size k j : Nat) (hs0 : 0 < size) (hs : size ≤ 4096) (hN : cutN u.length size ≤ 256) (hj : j < cutN u.length size) :
    sput (stN x t u size k j) x (partOf u 6 size (cutN u.length size) j) = if j + 1 < cutN u.length size then (stS x u 6 size (j + 1), [], false, 0) else ([], u, true, 0) := by
  unfold stN
  by_cases h : j = 0
  · subst h
    rw [if_pos rfl, sput_over x u t 6 5 size k hs hN (by omega), sput_stS x u 6 size 0 hs0 hs hN hj]
  · rw [if_neg h, if_pos hj, sput_stS x u 6 size j hs0 hs hN hj]
theorem stN_next (x t u : List UInt8) (size k j : Nat) (hj : j + 1 < cutN u.length size) : stN x t u size k (j + 1) = stS x u 6 size (j + 1) := by
  unfold stN
  rw [if_neg (by omega), if_pos hj]
theorem stN_last (x t u : List UInt8) (size k : Nat) : stN x t u size k (cutN u.length size) = [] := by
  have := cutN_pos u.length size
  unfold stN
  rw [if_neg (by omega), if_neg (by omega)]

set_option maxHeartbeats 20000000 in
set_option maxRecDepth 100000 in
theorem SessionNewer_calls (t u : List UInt8) (n cm : Nat) (w : World) (ht : t.length ≤ 140737488351232) (hu : u.length ≤ 140737488351232) (hn : n ≤ 255) (hc : cm ≤ 255) :
    Calls Try.prog 7 #[.string (B t), .string (B u), .int .u8 (n : Int), .int .u8 (cm : Int)] w fun e w' => e = .returned (.bool true) ∧ Below w.heap.size w w' := by
  have HW := Lib.hid works_calls
  by_cases hbig : 512 < t.length + u.length
  · have h1 : (512 : Int) < (t.length : Int) + (u.length : Int) := by omega
    go_enter Try.func7, Try.ntmps7
    go_wp2_with fail
    refine (HW.out w).mono ?_
    rintro e w1 ⟨rfl, hb⟩
    have HB := Lib.hid hb
    clear hb
    go_wp2
    go_ret
    exact ⟨rfl, HB.out⟩
  have h1 : (t.length : Int) + (u.length : Int) ≤ 512 := by omega
  obtain ⟨size, hsz⟩ : ∃ size : Nat, size = n % 20 + 1 := ⟨_, rfl⟩
  have hs2 : size ≤ 20 := by omega
  have hs1 : 1 ≤ size := by omega
  have hsz2 : (n : Int) % 20 + 1 = (size : Int) := by omega
  have HSZ := Lib.hid hsz2
  clear hsz hsz2
  by_cases hlt : size * 256 < t.length
  · have HC := Lib.hid (Cut_long t 5 size w hs1 (by omega) hlt (by omega))
    have HD := Lib.hid (Cut_calls u 6 size w hs1 (by omega) (by omega))
    have h2 : (size : Int) * 256 < (t.length : Int) := by omega
    go_enter Try.func7, Try.ntmps7
    go_wp2_with fail
    rw [HSZ.out]
    refine HC.out.mono ?_
    rintro e w1 ⟨rfl, rfl⟩
    go_wp2_with fail
    refine HD.out.mono ?_
    rintro e w1 ⟨b, rfl, hb1, hb2, hp, hbe⟩
    go_wp2
    go_ret
    exact ⟨rfl, hbe⟩
  have HC := Lib.hid (Cut_calls t 5 size w hs1 (by omega) (by omega))
  by_cases hlu : size * 256 < u.length
  · have HD := Lib.hid (fun w => Cut_long u 6 size w hs1 (by omega) hlu (by omega))
    have h2 : (t.length : Int) ≤ (size : Int) * 256 := by omega
    have h3 : (size : Int) * 256 < (u.length : Int) := by omega
    go_enter Try.func7, Try.ntmps7
    go_wp2_with fail
    rw [HSZ.out]
    refine HC.out.mono ?_
    rintro e w1 ⟨b, rfl, hb1, hb2, hp, hbe⟩
    go_wp2_with fail
    refine (HD.out w1).mono ?_
    rintro e w2 ⟨rfl, rfl⟩
    go_wp2
    go_ret
    exact ⟨rfl, hbe⟩
  have HD := Lib.hid (fun w => Cut_calls u 6 size w hs1 (by omega) (by omega))
  have hlen : (cutT t 5 size).length = cutN t.length size := by simp [cutT]
  have hlen2 : (cutT u 6 size).length = cutN u.length size := by simp [cutT]
  have hn1 : cutN t.length size ≤ 256 := by
    rcases Nat.lt_or_ge 256 (cutN t.length size) with h | h
    · have := (cutN_long t.length size 256 (by omega) (by omega)).1 h
      omega
    · exact h
  have hn2 : cutN u.length size ≤ 256 := by
    rcases Nat.lt_or_ge 256 (cutN u.length size) with h | h
    · have := (cutN_long u.length size 256 (by omega) (by omega)).1 h
      omega
    · exact h
  have hp1 := cutN_pos t.length size
  have hp2 := cutN_pos u.length size
  go_enter Try.func7, Try.ntmps7
  go_wp2_with fail
  rw [HSZ.out]
  refine HC.out.mono ?_
  rintro e w1 ⟨b, rfl, hb1, hb2, hp, hbe⟩
  have HB1 := Lib.hid hbe
  have HP1 := Lib.hid hp
  clear hp hbe HC
  rw [hlen]
  go_wp2_with fail
  refine (HD.out w1).mono ?_
  rintro e w2 ⟨c, rfl, hc1, hc2, hp, hbe⟩
  have HQ2 := Lib.hid hp
  have HP2 := Lib.hid (show PartsAt w2 b (cutT t 5 size) from CellsAt.below HP1.out hbe hb2)
  have HB2 := Lib.hid (later HB1.out hbe)
  have hb2' : b < w2.heap.size := Nat.lt_of_lt_of_le hb2 hbe.size
  clear hp hbe HD HB1 HP1
  rw [hlen2]
  go_wp2_with fail
  refine (New_solo w2).mono ?_
  rintro e w3 ⟨rfl, hs3, hbe⟩
  have HL := Lib.hid (fun w S h => Len_solo w w2.heap.size S h)
  have hfar : ∀ wr, Below w2.heap.size w2 wr → Below w.heap.size w wr ∧ PartsAt wr b (cutT t 5 size) ∧ PartsAt wr c (cutT u 6 size) := fun wr h =>
    ⟨later HB2.out h, CellsAt.below HP2.out h hb2', CellsAt.below HQ2.out h hc2⟩
  have HFAR := Lib.hid hfar
  have HS3 := Lib.hid hs3
  have HB3 := Lib.hid hbe
  have hsz3 := hs3.lt
  clear hfar hs3 hbe HP2 HQ2 HB2 HSZ
  generalize w2.heap.size = m at *
  have hput : ∀ (w : World) (S : St) (t : List UInt8) (id k : Nat), Solo w m S → cutN t.length size ≤ 256 → k < cutN t.length size → _ := fun w S t id k h hN hk => Put_part w m S [120] t id size k h (by unfold maxLen; decide) (by omega) hN hk
  have HPUT := Lib.hid hput
  have HDROP := Lib.hid (fun (w : World) (S : St) (c : Nat) h hc => Drop_solo w m S [120] c 0 1 h (by unfold maxLen; decide) hc)
  clear hput hlen hlen2
  unfold ptr
  go_wp2
  go_loopw [15] (fun v wr => ∃ k : Nat, v = .int .i64 k ∧ k + 1 ≤ cutN t.length size ∧ Solo wr m (stS [120] t 5 size k) ∧ Below m w2 wr) (fun v _ => cutN t.length size - (intOf v).toNat)
  case atStart => exact ⟨0, rfl, hp1, HS3.out, HB3.out⟩
  case round =>
    obtain ⟨k, rfl, hk, hs, hbe⟩ := hrel
    have HS := Lib.hid hs
    have HB := Lib.hid hbe
    clear hs hbe
    obtain ⟨hb0, hp, hq⟩ := HFAR.out _ HB.out
    have HBW := Lib.hid hb0
    have HQ := Lib.hid hq
    clear hb0 hq
    by_cases hgo : k + 1 < cutN t.length size ∧ k < cm
    · obtain ⟨hgo1, hgo2⟩ := hgo
      obtain ⟨a0, a1, a2, a3⟩ := cut_cells hp k (by omega)
      have h2 := HPUT.out wr _ t 5 k HS.out hn1 (by omega)
      rw [sput_stS [120] t 5 size k (by omega) (by omega) hn1 (by omega), if_pos hgo1] at h2
      have H2 := Lib.hid h2
      clear h2 hp
      have t1 : (k : Int) < (cutN t.length size : Int) - 1 := by omega
      have t2 : (k : Int) < (cm : Int) := by omega
      go_wp2_with fail
      refine H2.out.mono ?_
      clear H2
      rintro e w4 ⟨rfl, hs, hbe⟩
      have HS4 := Lib.hid hs
      have HB4 := Lib.hid (HB.out.trans hbe)
      clear hs hbe
      unfold putV
      go_wp2
      go_roundw
      case rel => exact ⟨k + 1, by go_num, by omega, HS4.out, HB4.out⟩
      case measure => simp [intOf]; omega
    · have hz : ¬ ((k : Int) < (cutN t.length size : Int) - 1 ∧ (k : Int) < (cm : Int)) := by omega
      have HK := Lib.hid hp
      clear hp
      have HHK := Lib.hid hk
      have hz0 : ((cutN t.length size : Nat) : Int) - 1 ≤ (k : Int) ∨ ((k : Int) < ((cutN t.length size : Nat) : Int) - 1 ∧ (cm : Int) ≤ (k : Int)) := by omega
      clear hz hgo hk
      rcases hz0 with hz1 | ⟨hz1, hz2⟩
      · go_wp2
        clear hz1
        go_loopw [19] (fun v wt => ∃ j : Nat, v = .int .i64 j ∧ j ≤ cutN u.length size ∧ Solo wt m (stN [120] t u size k j) ∧ Below m w2 wt) (fun v _ => cutN u.length size - (intOf v).toNat)
        case atStart => exact ⟨0, rfl, Nat.zero_le _, HS.out, HB.out⟩
        case round =>
          obtain ⟨j, rfl, hj, hs, hbe⟩ := hrel
          clear HK HQ HBW
          have HS := Lib.hid hs
          have HB := Lib.hid hbe
          clear hs hbe
          obtain ⟨hb0, hp, hq⟩ := HFAR.out _ HB.out
          have HBW := Lib.hid hb0
          clear hb0
          by_cases hgo : j < cutN u.length size
          · obtain ⟨a0, a1, a2, a3⟩ := cut_cells hq j hgo
            have t1 : (j : Int) < (cutN u.length size : Int) := by omega
            have h2 := HPUT.out wr _ u 6 j HS.out hn2 hgo
            rw [sput_stN [120] t u size k j (by omega) (by omega) hn2 hgo] at h2
            by_cases hlast : j + 1 < cutN u.length size
            · rw [if_pos hlast] at h2
              have H2 := Lib.hid h2
              have t2 : ((j : Int) == (cutN u.length size : Int) - 1) = false := by simp; omega
              clear h2 hp hq
              go_wp2_with fail
              refine H2.out.mono ?_
              clear H2 a0 a1 a2 a3
              rintro e w4 ⟨rfl, hs, hbe⟩
              have HB4 := Lib.hid (HB.out.trans hbe)
              have h2 := HPUT.out w4 _ t 5 0 hs hn1 (by omega)
              rw [sput_stale [120] u t 6 5 size (j + 1) (by omega) (by omega) hn1 (by omega)] at h2
              have H2 := Lib.hid h2
              obtain ⟨-, hp, -⟩ := HFAR.out _ HB4.out
              obtain ⟨a0, a1, a2, a3⟩ := cut_cells hp 0 (by omega)
              rw [Nat.zero_mul] at a0
              rw [Nat.zero_mul, Nat.zero_add] at a1 a2 a3
              clear h2 hs hbe hp
              unfold putV
              go_wp2_with fail
              refine H2.out.mono ?_
              clear H2 a0 a1 a2 a3
              rintro e w5 ⟨rfl, hs, hbe⟩
              have HS5 := Lib.hid hs
              have HB5 := Lib.hid (HB4.out.trans hbe)
              clear hs hbe
              unfold putV
              go_wp2
              go_roundw
              case rel => exact ⟨j + 1, by go_num, by omega, by rw [stN_next _ _ _ _ _ _ hlast]; exact HS5.out, HB5.out⟩
              case measure => simp [intOf]; omega
            · rw [if_neg hlast] at h2
              have H2 := Lib.hid h2
              have t2 : ((j : Int) == (cutN u.length size : Int) - 1) = true := by simp; omega
              have HJJ := Lib.hid (show j + 1 = cutN u.length size by omega)
              clear h2 hp hq hlast
              go_wp2_with fail
              refine H2.out.mono ?_
              clear H2 a0 a1 a2 a3
              rintro e w4 ⟨rfl, hs, hbe⟩
              have HB4 := Lib.hid (HB.out.trans hbe)
              have h2 := HPUT.out w4 _ t 5 0 hs hn1 (by omega)
              have H2 := Lib.hid h2
              obtain ⟨-, hp, -⟩ := HFAR.out _ HB4.out
              obtain ⟨a0, a1, a2, a3⟩ := cut_cells hp 0 (by omega)
              rw [Nat.zero_mul] at a0
              rw [Nat.zero_mul, Nat.zero_add] at a1 a2 a3
              clear h2 hs hbe hp
              unfold putV
              go_wp2_with fail
              refine H2.out.mono ?_
              clear H2 a0 a1 a2 a3
              rintro e w5 ⟨rfl, hs, hbe⟩
              have HS5 := Lib.hid hs
              have HB5 := Lib.hid (HB4.out.trans hbe)
              clear hs hbe
              unfold putV
              have hs6 := HS5.out.later ((Below.refl w5.heap.size w5).alloc (Nat.le_refl _) (.cells #[.string ⟨#[120]⟩] 9))
              have hb6 : Below m w2 (w5.alloc (.cells #[.string ⟨#[120]⟩] 9)) := HB5.out.alloc (Nat.le_of_lt HS5.out.lt) _
              have hc6 : (w5.alloc (.cells #[.string ⟨#[120]⟩] 9)).cell? ⟨w5.heap.size, 0, none⟩ = some (.string (B [120])) := (cells_made w5 #[.string ⟨#[120]⟩] 9 0 (by decide)).1
              have HB6 := Lib.hid hb6
              have HD6 := Lib.hid (HDROP.out _ _ _ hs6 hc6)
              have HDA := Lib.hid (drop_all [120] t 5 size (by omega) (by omega) hn1)
              clear hs6 hb6 hc6
              unfold ptr at HD6
              go_wp2_with fail
              refine HD6.out.mono ?_
              clear HD6
              rintro e w7 ⟨rfl, hs, hbe⟩
              rw [HDA.out] at hs
              have HS7 := Lib.hid hs
              have HB7 := Lib.hid (HB6.out.trans hbe)
              clear hs hbe
              go_wp2
              go_roundw
              case rel => exact ⟨j + 1, by go_num, by have := HJJ.out; omega, by rw [HJJ.out, stN_last]; exact HS7.out, HB7.out⟩
              case measure => have := HJJ.out; simp [intOf]; omega
          · have hjM : j = cutN u.length size := by omega
            have t1 : ¬ (j : Int) < (cutN u.length size : Int) := by omega
            have hs := HS.out
            rw [hjM, stN_last] at hs
            have H1 := Lib.hid (HL.out wr [] hs)
            have HW1 := Lib.hid (HW.out wr)
            clear hjM hs hp hq
            unfold ptr at H1
            go_wp2_with fail
            refine H1.out.mono ?_
            clear H1
            rintro e w7 ⟨rfl, rfl⟩
            go_wp2_with fail
            refine HW1.out.mono ?_
            rintro e w8 ⟨rfl, hbe⟩
            have HB8 := Lib.hid (later HBW.out hbe)
            clear hbe
            go_wp2
            go_ret
            exact ⟨rfl, HB8.out⟩
      · go_wp2
        clear hz1 hz2
        generalize decide (k < cm) = qq at *
        go_loopw [19] (fun v wt => ∃ j : Nat, v = .int .i64 j ∧ j ≤ cutN u.length size ∧ Solo wt m (stN [120] t u size k j) ∧ Below m w2 wt) (fun v _ => cutN u.length size - (intOf v).toNat)
        case atStart => exact ⟨0, rfl, Nat.zero_le _, HS.out, HB.out⟩
        case round =>
          obtain ⟨j, rfl, hj, hs, hbe⟩ := hrel
          clear HK HQ HBW
          have HS := Lib.hid hs
          have HB := Lib.hid hbe
          clear hs hbe
          obtain ⟨hb0, hp, hq⟩ := HFAR.out _ HB.out
          have HBW := Lib.hid hb0
          clear hb0
          by_cases hgo : j < cutN u.length size
          · obtain ⟨a0, a1, a2, a3⟩ := cut_cells hq j hgo
            have t1 : (j : Int) < (cutN u.length size : Int) := by omega
            have h2 := HPUT.out wr _ u 6 j HS.out hn2 hgo
            rw [sput_stN [120] t u size k j (by omega) (by omega) hn2 hgo] at h2
            by_cases hlast : j + 1 < cutN u.length size
            · rw [if_pos hlast] at h2
              have H2 := Lib.hid h2
              have t2 : ((j : Int) == (cutN u.length size : Int) - 1) = false := by simp; omega
              clear h2 hp hq
              go_wp2_with fail
              refine H2.out.mono ?_
              clear H2 a0 a1 a2 a3
              rintro e w4 ⟨rfl, hs, hbe⟩
              have HB4 := Lib.hid (HB.out.trans hbe)
              have h2 := HPUT.out w4 _ t 5 0 hs hn1 (by omega)
              rw [sput_stale [120] u t 6 5 size (j + 1) (by omega) (by omega) hn1 (by omega)] at h2
              have H2 := Lib.hid h2
              obtain ⟨-, hp, -⟩ := HFAR.out _ HB4.out
              obtain ⟨a0, a1, a2, a3⟩ := cut_cells hp 0 (by omega)
              rw [Nat.zero_mul] at a0
              rw [Nat.zero_mul, Nat.zero_add] at a1 a2 a3
              clear h2 hs hbe hp
              unfold putV
              go_wp2_with fail
              refine H2.out.mono ?_
              clear H2 a0 a1 a2 a3
              rintro e w5 ⟨rfl, hs, hbe⟩
              have HS5 := Lib.hid hs
              have HB5 := Lib.hid (HB4.out.trans hbe)
              clear hs hbe
              unfold putV
              go_wp2
              go_roundw
              case rel => exact ⟨j + 1, by go_num, by omega, by rw [stN_next _ _ _ _ _ _ hlast]; exact HS5.out, HB5.out⟩
              case measure => simp [intOf]; omega
            · rw [if_neg hlast] at h2
              have H2 := Lib.hid h2
              have t2 : ((j : Int) == (cutN u.length size : Int) - 1) = true := by simp; omega
              have HJJ := Lib.hid (show j + 1 = cutN u.length size by omega)
              clear h2 hp hq hlast
              go_wp2_with fail
              refine H2.out.mono ?_
              clear H2 a0 a1 a2 a3
              rintro e w4 ⟨rfl, hs, hbe⟩
              have HB4 := Lib.hid (HB.out.trans hbe)
              have h2 := HPUT.out w4 _ t 5 0 hs hn1 (by omega)
              have H2 := Lib.hid h2
              obtain ⟨-, hp, -⟩ := HFAR.out _ HB4.out
              obtain ⟨a0, a1, a2, a3⟩ := cut_cells hp 0 (by omega)
              rw [Nat.zero_mul] at a0
              rw [Nat.zero_mul, Nat.zero_add] at a1 a2 a3
              clear h2 hs hbe hp
              unfold putV
              go_wp2_with fail
              refine H2.out.mono ?_
              clear H2 a0 a1 a2 a3
              rintro e w5 ⟨rfl, hs, hbe⟩
              have HS5 := Lib.hid hs
              have HB5 := Lib.hid (HB4.out.trans hbe)
              clear hs hbe
              unfold putV
              have hs6 := HS5.out.later ((Below.refl w5.heap.size w5).alloc (Nat.le_refl _) (.cells #[.string ⟨#[120]⟩] 9))
              have hb6 : Below m w2 (w5.alloc (.cells #[.string ⟨#[120]⟩] 9)) := HB5.out.alloc (Nat.le_of_lt HS5.out.lt) _
              have hc6 : (w5.alloc (.cells #[.string ⟨#[120]⟩] 9)).cell? ⟨w5.heap.size, 0, none⟩ = some (.string (B [120])) := (cells_made w5 #[.string ⟨#[120]⟩] 9 0 (by decide)).1
              have HB6 := Lib.hid hb6
              have HD6 := Lib.hid (HDROP.out _ _ _ hs6 hc6)
              have HDA := Lib.hid (drop_all [120] t 5 size (by omega) (by omega) hn1)
              clear hs6 hb6 hc6
              unfold ptr at HD6
              go_wp2_with fail
              refine HD6.out.mono ?_
              clear HD6
              rintro e w7 ⟨rfl, hs, hbe⟩
              rw [HDA.out] at hs
              have HS7 := Lib.hid hs
              have HB7 := Lib.hid (HB6.out.trans hbe)
              clear hs hbe
              go_wp2
              go_roundw
              case rel => exact ⟨j + 1, by go_num, by have := HJJ.out; omega, by rw [HJJ.out, stN_last]; exact HS7.out, HB7.out⟩
              case measure => have := HJJ.out; simp [intOf]; omega
          · have hjM : j = cutN u.length size := by omega
            have t1 : ¬ (j : Int) < (cutN u.length size : Int) := by omega
            have hs := HS.out
            rw [hjM, stN_last] at hs
            have H1 := Lib.hid (HL.out wr [] hs)
            have HW1 := Lib.hid (HW.out wr)
            clear hjM hs hp hq
            unfold ptr at H1
            go_wp2_with fail
            refine H1.out.mono ?_
            clear H1
            rintro e w7 ⟨rfl, rfl⟩
            go_wp2_with fail
            refine HW1.out.mono ?_
            rintro e w8 ⟨rfl, hbe⟩
            have HB8 := Lib.hid (later HBW.out hbe)
            clear hbe
            go_wp2
            go_ret
            exact ⟨rfl, HB8.out⟩
end Go.Proofs.Ytejheedekiojnaa.Sess
