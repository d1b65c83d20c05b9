/-
  Disks (layer 7): the statement DiskMany, walked. Condition: the numbers are of their kinds.
-/
import Derived.Test.YtnmkdchgihgbhaaDkManyM
open Go Go.RowKit
namespace Go.Proofs.Ytnmkdchgihgbhaa.Dk
open Base Mp

theorem Has.congr {D : DiskD} {F F' G G' : Nat → Prop} {m m' : Nat} (h : Has D F G m) (hF : ∀ j, j < 26 → (F j ↔ F' j)) (hG : ∀ j, j < 26 → (G j ↔ G' j)) (hm : m = m') : Has D F' G' m' := ⟨h.len.trans hm, h.fused, fun j hj => (h.f j hj).trans (hF j hj), fun j hj => (h.g j hj).trans (hG j hj), h.h, h.nodup⟩
theorem conv_one (W : World) (i : Nat) (hi : i < 26) : (convert 27 9 (.slice (some ⟨W.heap.size, 0, none⟩) 1 1)).run Try.prog (W.alloc (.cells #[.int .u8 (97 + (i : Int))] 5)) = .ok (.string (B [lc i])) (W.alloc (.cells #[.int .u8 (97 + (i : Int))] 5)) := by
  have hB : BytesAt (W.alloc (.cells #[.int .u8 (97 + (i : Int))] 5)) W.heap.size [lc i] := bytesAt_cells W [lc i] 5 _ (by
    have : ((UInt8.ofNat (97 + i)).toNat : Int) = 97 + (i : Int) := by
      rw [UInt8.toNat_ofNat', Nat.mod_eq_of_lt (by omega)]; omega
    show #[Value.int .u8 (97 + (i : Int))] = #[Value.int .u8 ((UInt8.ofNat (97 + i)).toNat : Int)]
    rw [this])
  exact hB.back 27 9 5 1 1 rfl Try.underlying27 Try.underlying5 Try.underlying9
theorem cat_f (i : Nat) : ((⟨#[102]⟩ : ByteArray) ++ B [lc i]) = B (nm 102 i) := B_append [102] _
theorem cat_g (i : Nat) : ((⟨#[103]⟩ : ByteArray) ++ B [lc i]) = B (nm 103 i) := B_append [103] _
theorem mk_more {w0 w : World} {b : Nat} {D : DiskD} {F G : Nat → Prop} {m : Nat} (h : DW w0 w b D) (hs : Has D F G m) (n : Key) (hn : mayName n = true) (hn2 : n.length ≤ 40) (hl : lookL D.files (keyS n) = none) (hm : m < 16) : Calls Try.prog 9 #[.pointer (some ⟨b, 0, none⟩), .string (B n)] w fun e w' => e = .returned (.int .i64 0) ∧ DW w0 w' b { D with files := putL D.files (keyS n) ⟨[], 0, true⟩ } := by
  have t := h.op fun T hd => Create_f hd n (by unfold maxLen; omega)
  rw [hs.room hn hl hm] at t
  exact t
theorem mk_full {w0 w : World} {b : Nat} {D : DiskD} {F G : Nat → Prop} {m : Nat} (h : DW w0 w b D) (hs : Has D F G m) (n : Key) (hn : mayName n = true) (hn2 : n.length ≤ 40) (hl : lookL D.files (keyS n) = none) (hm : 16 ≤ m) : Calls Try.prog 9 #[.pointer (some ⟨b, 0, none⟩), .string (B n)] w fun e w' => e = .returned (.int .i64 6) ∧ DW w0 w' b D := by
  have t := h.op fun T hd => Create_f hd n (by unfold maxLen; omega)
  rw [hs.full hn hl hm] at t
  exact t
theorem mk_drop {w0 w : World} {b : Nat} {D : DiskD} {F G : Nat → Prop} {m : Nat} (h : DW w0 w b D) (hs : Has D F G (m + 1)) (i : Nat) (hi : i < 26) (hl : F i) : Calls Try.prog 10 #[.pointer (some ⟨b, 0, none⟩), .string (B (nm 102 i))] w fun e w' => e = .returned (.int .i64 0) ∧ DW w0 w' b { D with files := delL D.files (keyS (nm 102 i)) } := by
  have t := h.op fun T hd => Remove_f hd (nm 102 i) (by rw [nm_len]; unfold maxLen; omega)
  rw [(hs.dropF hi hl).1] at t
  exact t
theorem Has.noF {D : DiskD} {F G : Nat → Prop} {m : Nat} (h : Has D F G m) {i : Nat} (hi : i < 26) (hl : ¬ F i) : lookL D.files (keyS (nm 102 i)) = none := by
  cases hh : lookL D.files (keyS (nm 102 i)) with
  | none => rfl
  | some x => exact absurd ((h.f i hi).1 (by rw [hh]; rfl)) hl
theorem Has.noG {D : DiskD} {F G : Nat → Prop} {m : Nat} (h : Has D F G m) {i : Nat} (hi : i < 26) (hl : ¬ G i) : lookL D.files (keyS (nm 103 i)) = none := by
  cases hh : lookL D.files (keyS (nm 103 i)) with
  | none => rfl
  | some x => exact absurd ((h.g i hi).1 (by rw [hh]; rfl)) hl
set_option maxRecDepth 100000 in
set_option maxHeartbeats 4000000 in
theorem DiskMany_calls (w : World) (m g : Nat) (hm : m < 256) (hg : g < 256) : Calls Try.prog 3 #[.int .u8 (m : Int), .int .u8 (g : Int)] w fun e w' => e = .returned (.bool true) ∧ Below w.heap.size w w' := by
  have HN := Lib.hid (new100 (Below.refl w.heap.size w))
  obtain ⟨n, hn⟩ : ∃ n, n = m % 21 := ⟨_, rfl⟩
  have hn1 : n ≤ 20 := by omega
  have hn2 : (m : Int) % 21 = (n : Int) := by omega
  obtain ⟨t, ht⟩ : ∃ t, t = min n 16 := ⟨_, rfl⟩
  have ht1 : t ≤ 16 := by omega
  have ht2 : min (n : Int) 16 = (t : Int) := by omega
  have HT := Lib.hid ht
  obtain ⟨q, hq⟩ : ∃ q, q = g % 10 := ⟨_, rfl⟩
  have hq2 : (g : Int) % 10 = (q : Int) := by omega
  have hq1 : q ≤ 9 := by omega
  obtain ⟨k, hk⟩ : ∃ k, k = min q t := ⟨_, rfl⟩
  have hk1 : k ≤ t := by omega
  have hk2 : min (q : Int) (t : Int) = (k : Int) := by omega
  clear hn ht hq hk
  go_enter Try.func3, Try.ntmps3
  go_wp2_with fail
  with_reducible refine HN.out.mono ?_
  rintro e w1 ⟨b, rfl, h1⟩
  have H1 := Lib.hid (show DW w w1 b dA0 from h1)
  clear h1 HN
  go_wp2_with fail
  rw [hn2]
  clear hn2
  go_loopw [8] (fun u wr => ∃ (i : Nat) (D : DiskD), u = .int .i64 (i : Int) ∧ i ≤ n ∧ DW w wr b D ∧ Has D (fun j => j < min i 16) (fun _ => False) (min i 16)) (fun u _ => n - (intOf u).toNat)
  case atStart => exact ⟨0, _, rfl, Nat.zero_le _, H1.out, has_none.congr (fun j _ => by simp) (fun _ _ => Iff.rfl) (by simp)⟩
  case round =>
    obtain ⟨i, D, rfl, hi, hd, hs⟩ := hrel
    by_cases hin : i < n
    · have m0 : (i : Int) < (n : Int) := by omega
      have hcv := conv_one wr i (by omega)
      have hcat := cat_f i
      have hnm : lookL D.files (keyS (nm 102 i)) = none := hs.noF (by omega) (by omega)
      have hd2 := hd.later (show Below wr.heap.size wr (wr.alloc (.cells #[.int .u8 (97 + (i : Int))] 5)) from (Below.refl _ _).alloc (Nat.le_refl _) _)
      by_cases hi16 : i < 16
      · have m1 : (i : Int) < 16 := by omega
        have HC := Lib.hid (mk_more hd2 hs _ (nm_may i (by omega)).1 (by rw [nm_len]; decide) hnm (by omega))
        have HS := Lib.hid (hs.putF (i := i) (by omega) (by omega))
        clear hd hs hnm hd2
        go_wp2_with fail
        with_reducible refine HC.out.mono ?_
        rintro e w2 ⟨rfl, h2⟩
        have H2 := Lib.hid h2
        clear h2
        go_wp2_with fail
        go_roundw
        case rel =>
          first | exact ⟨i + 1, _, by go_num, hin, H2.out, HS.out.congr (fun j _ => by omega) (fun _ _ => Iff.rfl) (by omega)⟩ | ((repeat apply Exists.intro); exact ⟨⟨i + 1, _, by go_num, hin, H2.out, HS.out.congr (fun j _ => by omega) (fun _ _ => Iff.rfl) (by omega)⟩, rfl⟩)
        case measure => simp [intOf]; omega
      · have m1 : ¬ (i : Int) < 16 := by omega
        have HC := Lib.hid (mk_full hd2 hs _ (nm_may i (by omega)).1 (by rw [nm_len]; decide) hnm (by omega))
        have HS := Lib.hid hs
        clear hd hs hnm hd2
        go_wp2_with fail
        with_reducible refine HC.out.mono ?_
        rintro e w2 ⟨rfl, h2⟩
        have H2 := Lib.hid h2
        clear h2
        go_wp2_with fail
        go_roundw
        case rel =>
          first | exact ⟨i + 1, _, by go_num, hin, H2.out, HS.out.congr (fun j _ => by omega) (fun _ _ => Iff.rfl) (by omega)⟩ | ((repeat apply Exists.intro); exact ⟨⟨i + 1, _, by go_num, hin, H2.out, HS.out.congr (fun j _ => by omega) (fun _ _ => Iff.rfl) (by omega)⟩, rfl⟩)
        case measure => simp [intOf]; omega
    · obtain rfl : i = n := by omega
      have HS := Lib.hid (hs.congr (F' := fun j => j < t) (G' := fun _ => False) (m' := t) (fun j _ => by have := HT.out; omega) (fun _ _ => Iff.rfl) HT.out.symm)
      have HD := Lib.hid hd
      clear hs hd
      generalize wr = W2 at *
      go_wp2_with fail
      try rw [ht2]
      try rw [hq2]
      try rw [hk2]
      clear ht2 hq2 hk2
      go_loopw [12] (fun u wr => ∃ (i : Nat) (D : DiskD), u = .int .i64 (i : Int) ∧ i ≤ k ∧ DW w wr b D ∧ Has D (fun j => i ≤ j ∧ j < t) (fun _ => False) (t - i)) (fun u _ => k - (intOf u).toNat)
      case atStart => exact ⟨0, _, rfl, Nat.zero_le _, HD.out, HS.out.congr (fun j _ => by omega) (fun _ _ => Iff.rfl) (by omega)⟩
      case round =>
        obtain ⟨i2, D2, rfl, hi2, hd, hs⟩ := hrel
        by_cases hin2 : i2 < k
        · have m0 : (i2 : Int) < (k : Int) := by omega
          have hcv := conv_one wr i2 (by omega)
          have hcat := cat_f i2
          have hd2 := hd.later (show Below wr.heap.size wr (wr.alloc (.cells #[.int .u8 (97 + (i2 : Int))] 5)) from (Below.refl _ _).alloc (Nat.le_refl _) _)
          have hs2 := hs.congr (m' := (t - i2 - 1) + 1) (fun _ _ => Iff.rfl) (fun _ _ => Iff.rfl) (by omega)
          have HC := Lib.hid (mk_drop hd2 hs2 i2 (by omega) (by omega))
          have HS2 := Lib.hid (hs2.dropF (i := i2) (by omega) (by omega)).2
          clear hd hs hd2 hs2
          go_wp2_with fail
          with_reducible refine HC.out.mono ?_
          rintro e w2 ⟨rfl, h2⟩
          have H2 := Lib.hid h2
          clear h2
          go_wp2_with fail
          go_roundw
          case rel =>
            first | exact ⟨i2 + 1, _, by go_num, hin2, H2.out, HS2.out.congr (fun j _ => by omega) (fun _ _ => Iff.rfl) (by omega)⟩ | ((repeat apply Exists.intro); exact ⟨⟨i2 + 1, _, by go_num, hin2, H2.out, HS2.out.congr (fun j _ => by omega) (fun _ _ => Iff.rfl) (by omega)⟩, rfl⟩)
          case measure => simp [intOf]; omega
        · obtain rfl : i2 = k := by omega
          have HS2 := Lib.hid hs
          have HD2 := Lib.hid hd
          clear hs hd
          generalize wr = W3 at *
          go_wp2_with fail
          go_loopw [13] (fun u wr => ∃ (i : Nat) (D : DiskD), u = .int .i64 (i : Int) ∧ i ≤ i2 ∧ DW w wr b D ∧ Has D (fun j => i2 ≤ j ∧ j < t) (fun j => j < i) (t - i2 + i)) (fun u _ => i2 - (intOf u).toNat)
          case atStart => exact ⟨0, _, rfl, Nat.zero_le _, HD2.out, HS2.out.congr (fun _ _ => Iff.rfl) (fun j _ => by simp) (by omega)⟩
          case round =>
            obtain ⟨i3, D3, rfl, hi3, hd, hs⟩ := hrel
            by_cases hin3 : i3 < i2
            · have m0 : (i3 : Int) < (i2 : Int) := by omega
              have hcv := conv_one wr i3 (by omega)
              have hcat := cat_g i3
              have hd2 := hd.later (show Below wr.heap.size wr (wr.alloc (.cells #[.int .u8 (97 + (i3 : Int))] 5)) from (Below.refl _ _).alloc (Nat.le_refl _) _)
              have HC := Lib.hid (mk_more hd2 hs _ (nm_may i3 (by omega)).2 (by rw [nm_len]; decide) (hs.noG (by omega) (by omega)) (by omega))
              have HS3 := Lib.hid (hs.putG (i := i3) (by omega) (by omega))
              clear hd hs hd2
              go_wp2_with fail
              with_reducible refine HC.out.mono ?_
              rintro e w2 ⟨rfl, h2⟩
              have H2 := Lib.hid h2
              clear h2
              go_wp2_with fail
              go_roundw
              case rel =>
                first | exact ⟨i3 + 1, _, by go_num, hin3, H2.out, HS3.out.congr (fun _ _ => Iff.rfl) (fun j _ => by omega) (by omega)⟩ | ((repeat apply Exists.intro); exact ⟨⟨i3 + 1, _, by go_num, hin3, H2.out, HS3.out.congr (fun _ _ => Iff.rfl) (fun j _ => by omega) (by omega)⟩, rfl⟩)
              case measure => simp [intOf]; omega
            · obtain rfl : i3 = i2 := by omega
              have HNA := Lib.hid (kNames hd)
              have hln : D3.files.length = t := by rw [hs.len]; omega
              rw [hln] at HNA
              have HS3 := Lib.hid hs
              clear hs hd
              generalize wr = W4 at *
              by_cases ht16 : t < 16
              · have m1 : (t : Int) < 16 := by omega
                go_wp2_with fail
                with_reducible refine HNA.out.mono ?_
                rintro e w5 ⟨pp, cc, rfl, h5⟩
                have H5 := Lib.hid h5
                clear h5
                go_wp2_with fail
                with_reducible refine (Works_f _).mono ?_
                rintro e w6 ⟨rfl, h6⟩
                have H6 := Lib.hid (H5.out.1.trans (h6.mono H5.out.1.size))
                clear h6
                go_wp2
                go_ret
                exact ⟨rfl, H6.out⟩
              · have m1 : ¬ (t : Int) < 16 := by omega
                go_wp2_with fail
                with_reducible refine HNA.out.mono ?_
                rintro e w5 ⟨pp, cc, rfl, h5⟩
                have HC := Lib.hid (show Calls Try.prog 9 #[.pointer (some ⟨b, 0, none⟩), .string ⟨#[104]⟩] w5 fun e w' => e = .returned (.int .i64 6) ∧ DW w w' b D3 from mk_full h5 HS3.out [104] (by decide) (by decide) HS3.out.h (by omega))
                clear h5
                go_wp2_with fail
                with_reducible refine HC.out.mono ?_
                rintro e w7 ⟨rfl, h7⟩
                have H5 := Lib.hid h7
                clear h7
                go_wp2_with fail
                with_reducible refine (Works_f _).mono ?_
                rintro e w6 ⟨rfl, h6⟩
                have H6 := Lib.hid (H5.out.1.trans (h6.mono H5.out.1.size))
                clear h6
                go_wp2
                go_ret
                exact ⟨rfl, H6.out⟩
end Go.Proofs.Ytnmkdchgihgbhaa.Dk
