/-
  CrcMixed: the call returns true, whatever the text and what the two others differ in; under the table's cells.
-/
import Derived.Test.YtgnhjgpcknijnaaDoorCrcBursts
import Derived.RegionTactic
import Derived.BigRegion
import Derived.BigQuiet
import Derived.Deep.RegionWith
open Go Go.RowKit
namespace Go.Proofs.YtgnhjgpcknijnaaDoor.Crc
open Base

theorem TabOk.drewN {w : World} (h : TabOk w) (n : Nat) : TabOk (w.drewN n) := h
/-- What the loop of CrcMixed has done to the three blocks. -/
structure MixedAt (s : List UInt8) (d1 d2 : Nat → UInt8) (k : Nat) (B B1 B2 : Nat) (w0 wr : World) : Prop where
  a : BytesAt wr B (mixed s d1 k)
  b : BytesAt wr B1 (mixed s d2 k)
  c : BytesAt wr B2 (mixed s (fun j => d1 j ^^^ d2 j) k)
  below : Below B w0 wr
theorem u8x (a b : UInt8) : ∃ v : UInt8, bits .xor .u8 (a.toNat : Int) (b.toNat : Int) = (v.toNat : Int) ∧ v = a ^^^ b := ⟨a ^^^ b, by rw [UInt8.toNat_xor]; exact u8_xor_nat _ _ (u8_lt a) (u8_lt b), rfl⟩
theorem MixedAt.drew {s : List UInt8} {d1 d2 : Nat → UInt8} {m B B1 B2 : Nat} {w0 wr : World} (h : MixedAt s d1 d2 m B B1 B2 w0 wr) : MixedAt s d1 d2 m B B1 B2 w0 wr.drew := ⟨h.a, h.b, h.c, h.below.drew⟩
section
variable {s : List UInt8} {d1 d2 : Nat → UInt8} {m B B1 B2 : Nat} {w0 wr : World} (h : MixedAt s d1 d2 m B B1 B2 w0 wr) (hm : m < s.length) (hx1 : B < B1) (hx2 : B1 < B2)
include h hm hx1 hx2
theorem MixedAt.both {v1 v2 v3 : UInt8} (e1 : v1 = s[m] ^^^ d1 m) (e2 : v2 = s[m] ^^^ d2 m) (e3 : v3 = v1 ^^^ d2 m) :
    MixedAt s d1 d2 (m + 1) B B1 B2 w0 ((((wr.setCell ⟨B, m, none⟩ (.int .u8 (v1.toNat : Int))).setCell ⟨B2, m, none⟩ (.int .u8 (v1.toNat : Int))).setCell ⟨B1, m, none⟩ (.int .u8 (v2.toNat : Int))).setCell ⟨B2, m, none⟩ (.int .u8 (v3.toNat : Int))) := by
  subst e1 e2 e3
  refine ⟨?_, ?_, ?_, (((h.below.setCell (Nat.le_refl _) _).setCell (by simp; omega) _).setCell (by simp; omega) _).setCell (by simp; omega) _⟩
  · rw [← mixed_set s d1 m hm]
    exact (((h.a.set m (by rw [mixed_length]; exact hm) _).other (by omega) _).other (by omega) _).other (by omega) _
  · rw [← mixed_set s d2 m hm]
    exact (((h.b.other (by omega) _).other (by omega) _).set m (by rw [mixed_length]; exact hm) _).other (by omega) _
  · rw [← mixed_set s _ m hm, ← UInt8.xor_assoc]
    have := (((h.c.other (b' := B) (i := m) (by omega) (.int .u8 ((s[m] ^^^ d1 m).toNat : Int))).set m (by rw [mixed_length]; exact hm) (s[m] ^^^ d1 m)).other (b' := B1) (i := m) (by omega) (.int .u8 ((s[m] ^^^ d2 m).toNat : Int))).set m (by simp [mixed_length]; exact hm) (s[m] ^^^ d1 m ^^^ d2 m)
    rwa [List.set_set] at this
theorem MixedAt.one {v1 : UInt8} (e1 : v1 = s[m] ^^^ d1 m) (e2 : d2 m = 0) :
    MixedAt s d1 d2 (m + 1) B B1 B2 w0 ((wr.setCell ⟨B, m, none⟩ (.int .u8 (v1.toNat : Int))).setCell ⟨B2, m, none⟩ (.int .u8 (v1.toNat : Int))) := by
  subst e1
  refine ⟨?_, ?_, ?_, (h.below.setCell (Nat.le_refl _) _).setCell (by simp; omega) _⟩
  · rw [← mixed_set s d1 m hm]
    exact (h.a.set m (by rw [mixed_length]; exact hm) _).other (by omega) _
  · rw [mixed_same s d2 m e2]
    exact (h.b.other (by omega) _).other (by omega) _
  · rw [← mixed_set s _ m hm, e2, UInt8.xor_zero]
    exact (h.c.other (by omega) _).set m (by rw [mixed_length]; exact hm) _
theorem MixedAt.two {v1 : UInt8} (e1 : v1 = s[m] ^^^ d2 m) (e2 : d1 m = 0) :
    MixedAt s d1 d2 (m + 1) B B1 B2 w0 ((wr.setCell ⟨B1, m, none⟩ (.int .u8 (v1.toNat : Int))).setCell ⟨B2, m, none⟩ (.int .u8 (v1.toNat : Int))) := by
  subst e1
  refine ⟨?_, ?_, ?_, (h.below.setCell (by simp; omega) _).setCell (by simp; omega) _⟩
  · rw [mixed_same s d1 m e2]
    exact (h.a.other (by omega) _).other (by omega) _
  · rw [← mixed_set s d2 m hm]
    exact (h.b.set m (by rw [mixed_length]; exact hm) _).other (by omega) _
  · rw [← mixed_set s _ m hm, e2, UInt8.zero_xor]
    exact (h.c.other (by omega) _).set m (by rw [mixed_length]; exact hm) _
end
theorem MixedAt.none {s : List UInt8} {d1 d2 : Nat → UInt8} {m B B1 B2 : Nat} {w0 wr : World} (h : MixedAt s d1 d2 m B B1 B2 w0 wr) (e1 : d1 m = 0) (e2 : d2 m = 0) : MixedAt s d1 d2 (m + 1) B B1 B2 w0 wr :=
  ⟨by rw [mixed_same s d1 m e1]; exact h.a, by rw [mixed_same s d2 m e2]; exact h.b, by rw [mixed_same s _ m (by simp only [e1, e2]; rfl)]; exact h.c, h.below⟩
theorem getD_in (l : List UInt8) (m : Nat) (h : m < l.length) : l.getD m 0 = l[m] := by simp [List.getD, List.getElem?_eq_getElem h]
theorem getD_out (l : List UInt8) (m : Nat) (h : ¬ m < l.length) : l.getD m 0 = 0 := by simp [List.getD, List.getElem?_eq_none (Nat.le_of_not_lt h)]

set_option maxHeartbeats 1000000 in
theorem Mixed_calls (s : ByteArray) (p1 p2 : Option Addr) (l1 l2 : List UInt8) (c1 c2 : Nat) (w : World) (hs : s.size ≤ maxLen) (hT : TabOk w) (h2 : s.size ≤ 4096) (h3 : l1.length ≤ 4096) (h4 : l2.length ≤ 4096)
    (ha1 : BytesArg w p1 l1) (ha2 : BytesArg w p2 l2) :
    Calls Tryd.prog 6 #[.string s, .slice p1 l1.length c1, .slice p2 l2.length c2] w fun e w' => e = .returned (.bool true) ∧ Below w.heap.size w w' := by
  have HT := Lib.hid hT
  have HA1 := Lib.hid ha1
  have HA2 := Lib.hid ha2
  clear hT ha1 ha2
  have h6 : decide ((4096 : Int) < s.size) = false := by simp; omega
  have h7 : decide ((4096 : Int) < l1.length) = false := by simp; omega
  have h8 : decide ((4096 : Int) < l2.length) = false := by simp; omega
  obtain ⟨k1, w1, e1, hb1, hbl1, hz1⟩ := conv_laid (P := Tryd.prog) w 9 28 5 s Tryd.underlying9 Tryd.underlying28 Tryd.underlying5
  obtain ⟨k2, w2, e2, hb2, hbl2, hz2⟩ := conv_laid (P := Tryd.prog) w1 9 28 5 s Tryd.underlying9 Tryd.underlying28 Tryd.underlying5
  obtain ⟨k3, w3, e3, hb3, hbl3, hz3⟩ := conv_laid (P := Tryd.prog) w2 9 28 5 s Tryd.underlying9 Tryd.underlying28 Tryd.underlying5
  have hx : w.heap.size < w1.heap.size ∧ w1.heap.size < w2.heap.size := by omega
  have hst : MixedAt s.data.toList (fun j => l1.getD j 0) (fun j => l2.getD j 0) 0 w.heap.size w1.heap.size w2.heap.size w w3 := by
    refine ⟨?_, ?_, ?_, ?_⟩
    · rw [mixed_zero]; exact (hb1.below hbl2 (by omega)).below hbl3 (by omega)
    · rw [mixed_zero]; exact hb2.below hbl3 (by omega)
    · rw [mixed_zero]; exact hb3
    · exact (hbl1.trans (hbl2.mono (by omega))).trans (hbl3.mono (by omega))
  have HST := Lib.hid hst
  obtain ⟨hx1, hx2⟩ := hx
  clear hst hb1 hb2 hb3 hbl1 hbl2 hbl3 hz1 hz2 hz3
  go_enter Tryd.func6, Tryd.ntmps6
  go_wp2
  clear e1 e2 e3
  generalize w1.heap.size = B1 at *
  generalize w2.heap.size = B2 at *
  go_loopw [10] (fun k wr => ∃ m : Nat, m ≤ s.size ∧ k = .int .i64 m ∧ MixedAt s.data.toList (fun j => l1.getD j 0) (fun j => l2.getD j 0) m w.heap.size B1 B2 w wr) (fun k _ => s.size - (intOf k).toNat)
  case atStart => exact ⟨0, by omega, rfl, HST.out⟩
  case round =>
    clear HST
    obtain ⟨m, hm, rfl, ht⟩ := hrel
    by_cases hlt : m < s.size
    · have hm' : m < s.data.toList.length := by simpa using hlt
      obtain ⟨hca, hfa⟩ := ht.a m (by rw [mixed_length]; exact hm')
      obtain ⟨hcb, hfb⟩ := ht.b m (by rw [mixed_length]; exact hm')
      obtain ⟨hcc, hfc⟩ := ht.c m (by rw [mixed_length]; exact hm')
      rw [mixed_at _ _ _ _ hm', if_neg (by omega)] at hca hcb hcc
      have HM := Lib.hid ht
      clear ht
      by_cases hj1 : m < l1.length
      · obtain ⟨b1, off1, rfl, hlt1, hcell1⟩ := HA1.out m hj1
        have hcell1' := (HM.out.below.cell (p := ⟨b1, off1 + m, none⟩) hlt1).trans hcell1
        clear hcell1
        obtain ⟨v1, x1, y1⟩ := u8x s.data.toList[m] l1[m]
        rw [← getD_in l1 m hj1] at y1
        by_cases hj2 : m < l2.length
        · obtain ⟨b2, off2, rfl, hlt2, hcell2⟩ := HA2.out m hj2
          have hcell2' := (HM.out.below.cell (p := ⟨b2, off2 + m, none⟩) hlt2).trans hcell2
          clear hcell2
          obtain ⟨v2, x2, y2⟩ := u8x s.data.toList[m] l2[m]
          obtain ⟨v3, x3, y3⟩ := u8x v1 l2[m]
          rw [← getD_in l2 m hj2] at y2 y3
          have HN := Lib.hid (HM.out.both hm' hx1 hx2 y1 y2 y3)
          clear y1 y2 y3 HM
          generalize s.data.toList[m] = cs at *
          generalize l1[m] = cl1 at *
          generalize l2[m] = cl2 at *
          clear hm'
          go_wp2
          go_region
          go_wp2
          go_region
          go_wp2
          go_region
          go_wp2
          go_region
          go_wp2
          go_roundw
          case rel => exact ⟨m + 1, by omega, by go_num, HN.out.drew.drew.drew.drew⟩
          case measure => simp [intOf]; omega
        · have HN := Lib.hid (HM.out.one hm' hx1 hx2 y1 (getD_out l2 m hj2))
          clear y1 HM
          generalize s.data.toList[m] = cs at *
          generalize l1[m] = cl1 at *
          go_wp2
          go_region
          go_wp2
          go_region
          go_wp2
          go_roundw
          case rel => exact ⟨m + 1, by omega, by go_num, HN.out.drew.drew⟩
          case measure => simp [intOf]; omega
      · by_cases hj2 : m < l2.length
        · obtain ⟨b2, off2, rfl, hlt2, hcell2⟩ := HA2.out m hj2
          have hcell2' := (HM.out.below.cell (p := ⟨b2, off2 + m, none⟩) hlt2).trans hcell2
          clear hcell2
          obtain ⟨v2, x2, y2⟩ := u8x s.data.toList[m] l2[m]
          rw [← getD_in l2 m hj2] at y2
          have HN := Lib.hid (HM.out.two hm' hx1 hx2 y2 (getD_out l1 m hj1))
          clear y2 HM
          generalize s.data.toList[m] = cs at *
          generalize l2[m] = cl2 at *
          go_wp2
          go_region
          go_wp2
          go_region
          go_wp2
          go_roundw
          case rel => exact ⟨m + 1, by omega, by go_num, HN.out.drew.drew⟩
          case measure => simp [intOf]; omega
        · have HN := Lib.hid (HM.out.none (getD_out l1 m hj1) (getD_out l2 m hj2))
          clear HM hm' hca hcb hcc
          go_wp2
          go_roundw
          case rel => exact ⟨m + 1, by omega, by go_num, HN.out⟩
          case measure => simp [intOf]; omega
    · have hml : m = s.data.toList.length := by simp; omega
      have hT2 := HT.out.below (HT.out.lt) ht.below
      have HT2 := Lib.hid hT2
      have hon := on_mixed s.data.toList (fun j => l1.getD j 0) (fun j => l2.getD j 0)
      rw [← hml] at hon
      have hsz : ∀ d, (ByteArray.mk (mixed s.data.toList d m).toArray).size ≤ maxLen := fun d => by
        rw [show (ByteArray.mk (mixed s.data.toList d m).toArray).size = s.size from by rw [show (ByteArray.mk (mixed s.data.toList d m).toArray).size = (mixed s.data.toList d m).length from by simp [ByteArray.size], mixed_length]; simp]; exact hs
      have hlen : ∀ d, (mixed s.data.toList d m).length = s.size := fun d => by simp [mixed_length]
      have hba := fun q cap => (BytesAt.drewN ht.a q).back (P := Tryd.prog) 28 9 5 s.size cap (hlen _) Tryd.underlying28 Tryd.underlying5 Tryd.underlying9
      have hbb := fun q cap => (BytesAt.drewN ht.b q).back (P := Tryd.prog) 28 9 5 s.size cap (hlen _) Tryd.underlying28 Tryd.underlying5 Tryd.underlying9
      have hbc := fun q cap => (BytesAt.drewN ht.c q).back (P := Tryd.prog) 28 9 5 s.size cap (hlen _) Tryd.underlying28 Tryd.underlying5 Tryd.underlying9
      have hbel := ht.below
      clear hT2 ht hlen hml
      have za := hsz (fun j => l1.getD j 0)
      have zb := hsz (fun j => l2.getD j 0)
      have zc := hsz (fun j => l1.getD j 0 ^^^ l2.getD j 0)
      clear hsz
      generalize mixed s.data.toList (fun j => l1.getD j 0) m = la at *
      generalize mixed s.data.toList (fun j => l2.getD j 0) m = lb at *
      generalize mixed s.data.toList (fun j => l1.getD j 0 ^^^ l2.getD j 0) m = lc at *
      have xa := u32_xor_nat (on 0 s.data.toList) (on 0 la) (on_lt (by omega) _) (on_lt (by omega) _)
      have xb := u32_xor_nat (on 0 s.data.toList ^^^ on 0 la) (on 0 lb) (xor_lt (on_lt (by omega) _) (on_lt (by omega) _)) (on_lt (by omega) _)
      rw [hon] at xb
      generalize on 0 s.data.toList ^^^ on 0 la = y at xa xb
      clear hon
      go_wp2_with fail
      go_quiet (first | (go_at_call 8; exact quiet (Of_calls _ _ (by assumption) (HT2.out.drewN _))) | (go_at_call 7; exact quiet (works_calls _ (HT2.out.drewN _))))
      go_wp2
      go_ret
      exact ⟨rfl, hbel.drewN _⟩

set_option maxHeartbeats 400000 in
/-- The law itself: too much, too. -/
theorem CrcMixed_calls (s : ByteArray) (p1 p2 : Option Addr) (l1 l2 : List UInt8) (c1 c2 : Nat) (w : World) (hs : s.size ≤ maxLen) (hl1 : l1.length ≤ maxLen) (hl2 : l2.length ≤ maxLen) (hT : TabOk w)
    (ha1 : BytesArg w p1 l1) (ha2 : BytesArg w p2 l2) :
    Calls Tryd.prog 6 #[.string s, .slice p1 l1.length c1, .slice p2 l2.length c2] w fun e w' => e = .returned (.bool true) ∧ Below w.heap.size w w' := by
  by_cases h : s.size ≤ 4096 ∧ l1.length ≤ 4096 ∧ l2.length ≤ 4096
  · exact Mixed_calls s p1 p2 l1 l2 c1 c2 w hs hT h.1 h.2.1 h.2.2 ha1 ha2
  · have HT := Lib.hid hT
    clear hT ha1 ha2
    unfold maxLen at hs hl1 hl2
    by_cases h2 : 4096 < s.size
    · have h6 : decide ((4096 : Int) < s.size) = true := by simp; omega
      clear h
      go_enter Tryd.func6, Tryd.ntmps6
      go_wp2_with (go_at_call 7; refine (works_calls _ HT.out).mono ?_; rintro e w' ⟨rfl, rfl⟩)
      go_ret
      exact ⟨rfl, Below.refl _ _⟩
    · have h6 : decide ((4096 : Int) < s.size) = false := by simp; omega
      by_cases h3 : 4096 < l1.length
      · have h7 : decide ((4096 : Int) < l1.length) = true := by simp; omega
        clear h
        go_enter Tryd.func6, Tryd.ntmps6
        go_wp2_with (go_at_call 7; refine (works_calls _ HT.out).mono ?_; rintro e w' ⟨rfl, rfl⟩)
        go_ret
        exact ⟨rfl, Below.refl _ _⟩
      · have h7 : decide ((4096 : Int) < l1.length) = false := by simp; omega
        have h8 : decide ((4096 : Int) < l2.length) = true := by simp; omega
        clear h
        go_enter Tryd.func6, Tryd.ntmps6
        go_wp2_with (go_at_call 7; refine (works_calls _ HT.out).mono ?_; rintro e w' ⟨rfl, rfl⟩)
        go_ret
        exact ⟨rfl, Below.refl _ _⟩
end Go.Proofs.YtgnhjgpcknijnaaDoor.Crc
