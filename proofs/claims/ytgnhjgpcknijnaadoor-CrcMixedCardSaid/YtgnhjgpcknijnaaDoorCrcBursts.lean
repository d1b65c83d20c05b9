/-
  CrcBursts: the call returns true, whatever the text, the place and the bits; under the table's cells.
-/
import Derived.Test.YtgnhjgpcknijnaaDoorCrcLaws
import Derived.Test.YtgnhjgpcknijnaaDoorBase
open Go Go.RowKit
namespace Go.Proofs.YtgnhjgpcknijnaaDoor.Crc
open Base

theorem TabOk.below {w w' : World} {B : Nat} (h : TabOk w) (hB : 0 < B) (hb : Below B w w') : TabOk w' := fun i hi => (hb.cell (p := ⟨0, i, none⟩) hB).trans (h i hi)
theorem TabOk.lt {w : World} (h : TabOk w) : 0 < w.heap.size := lt_of_cell (h 0 (by omega))

/-- What the loop of CrcBursts has done to the bytes. -/
structure Turned (s : ByteArray) (f bits_ m : Nat) (B : Nat) (w0 wr : World) (l : List UInt8) : Prop where
  len : l.length = s.size
  num : num l = num s.data.toList ^^^ 2 ^ f * (bits_ % 2 ^ m)
  cells : BytesAt wr B l
  below : Below B w0 wr

theorem Turned.step {s : ByteArray} {f bits_ m B : Nat} {w0 wr : World} {l : List UInt8} (h : Turned s f bits_ m B w0 wr l) (hi : (f + m) / 8 < l.length) (hb : bits_ / 2 ^ m % 2 = 1) :
    Turned s f bits_ (m + 1) B w0 (wr.setCell ⟨B, (f + m) / 8, none⟩ (.int .u8 (bits .xor .u8 (l[(f + m) / 8].toNat) (2 ^ ((f + m) % 8) % 256)))) (l.set ((f + m) / 8) (l[(f + m) / 8] ^^^ UInt8.ofNat (2 ^ ((f + m) % 8)))) := by
  have e : bits .xor .u8 (l[(f + m) / 8].toNat : Int) (2 ^ ((f + m) % 8) % 256) = ((l[(f + m) / 8] ^^^ UInt8.ofNat (2 ^ ((f + m) % 8))).toNat : Nat) := by
    have hp : 2 ^ ((f + m) % 8) < 2 ^ 8 := Nat.pow_lt_pow_right (by omega) (by omega)
    have h1 := u8_xor_nat l[(f + m) / 8].toNat (2 ^ ((f + m) % 8)) (u8_lt _) (by omega)
    rw [UInt8.toNat_xor, UInt8.toNat_ofNat', Nat.mod_eq_of_lt hp, ← h1]
    congr 1
    rw [show ((2 : Int) ^ ((f + m) % 8)) = ((2 ^ ((f + m) % 8) : Nat) : Int) from by rw [Int.natCast_pow]; rfl]
    generalize 2 ^ ((f + m) % 8) = q at hp
    omega
  rw [e]
  refine ⟨by simp [h.len], ?_, h.cells.set _ hi _, h.below.setCell (Nat.le_refl _) _⟩
  rw [num_turn l (f + m) hi, h.num, mask_succ f bits_ m hb, Nat.xor_assoc]
theorem Turned.same {s : ByteArray} {f bits_ m B : Nat} {w0 wr : World} {l : List UInt8} (h : Turned s f bits_ m B w0 wr l) (hb : bits_ / 2 ^ m % 2 ≠ 1) : Turned s f bits_ (m + 1) B w0 wr l :=
  ⟨h.len, by rw [mask_same bits_ m hb]; exact h.num, h.cells, h.below⟩
theorem Turned.fin {s : ByteArray} {f bits_ m B : Nat} {w0 wr : World} {l : List UInt8} (h : Turned s f bits_ m B w0 wr l) (hm : m ≤ 32) (hf : f < 8 * s.size) :
    (((on 0 l : Nat) : Int) != ((on 0 s.data.toList : Nat) : Int)) = (bits_ % 2 ^ m != 0) := by
  have hlt : bits_ % 2 ^ m < 4294967296 := Nat.lt_of_lt_of_le (Nat.mod_lt _ (Nat.two_pow_pos m)) (Nat.pow_le_pow_right (by omega) hm)
  have := on_burst s.data.toList l (by rw [h.len]; simp) f _ hlt h.num (by simp; omega)
  rw [Bool.eq_iff_iff, bne_iff_ne, bne_iff_ne, ne_eq, ne_eq, Int.natCast_inj, this]

theorem bit_and (b m : Nat) (hb : b < 4294967296) : bits .and .u32 ((b : Int) / 2 ^ m) 1 = ((b / 2 ^ m % 2 : Nat) : Int) := by
  have h1 := u32_and_nat (b / 2 ^ m) 1 (Nat.lt_of_le_of_lt (Nat.div_le_self _ _) (by omega)) (by omega)
  rw [nat_mask1] at h1
  rw [← h1, Int.natCast_ediv, Int.natCast_pow]
  rfl
set_option maxHeartbeats 400000 in
theorem Bursts_calls (s : ByteArray) (at_ bits_ : Nat) (w : World) (hs : s.size ≤ maxLen) (hT : TabOk w) (h1 : 0 < s.size) (h2 : s.size ≤ 4096) (h3 : at_ < 4294967296) (h4 : bits_ < 4294967296) :
    Calls Tryd.prog 5 #[.string s, .int .u32 at_, .int .u32 bits_] w fun e w' => e = .returned (.bool true) ∧ Below w.heap.size w w' := by
  have HT := Lib.hid hT
  clear hT
  have h5 : ((s.size : Int) == 0) = false := beq_eq_false_iff_ne.2 (by omega)
  have h6 : decide ((4096 : Int) < s.size) = false := by simp; omega
  have hconv := fun w => run_bytes_of_string (P := Tryd.prog) w 9 28 5 s Tryd.underlying9 Tryd.underlying28 Tryd.underlying5
  obtain ⟨f, hf, hfn⟩ : ∃ f : Nat, (at_ : Int) % (8 * (s.size : Int)) = (f : Int) ∧ f < 8 * s.size := ⟨at_ % (8 * s.size), by simp, Nat.mod_lt _ (by omega)⟩
  go_enter Tryd.func5, Tryd.ntmps5
  go_wp2
  rw [hf]
  clear hconv hf
  go_loopw [10, 11] (fun v k wr => ∃ (m : Nat) (l : List UInt8), m ≤ 32 ∧ k = .int .i64 m ∧ v = .bool (bits_ % 2 ^ m != 0) ∧ Turned s f bits_ m w.heap.size w wr l) (fun _ k _ => 32 - (intOf k).toNat)
  case atStart =>
    refine ⟨0, s.data.toList, by omega, rfl, by simp [Nat.mod_one], ?_⟩
    exact ⟨by simp, by simp [Nat.mod_one], (bytesAt_new w s _ 5).drew, ((Below.refl _ _).alloc (Nat.le_refl _) _).drew⟩
  case round =>
    obtain ⟨m, l, hm, rfl, rfl, ht⟩ := hrel
    by_cases hlt : m < 32 ∧ f + m < 8 * s.size
    · obtain ⟨hlt, hlt2⟩ := hlt
      have hi : (f + m) / 8 < l.length := by rw [ht.len]; omega
      have ea := bit_and bits_ m h4
      by_cases hb : bits_ / 2 ^ m % 2 = 1
      · obtain ⟨hcell, hfro⟩ := ht.cells _ hi
        have HS := Lib.hid (ht.step hi hb)
        have HM := Lib.hid (mask_ne bits_ m hb)
        rw [hb] at ea
        generalize l[(f + m) / 8] = c at hcell HS
        clear hi hb ht
        go_wp2
        go_round
        case rel => exact ⟨m + 1, _, by omega, by go_num, by rw [HM.out], HS.out⟩
        case measure => simp [intOf]; omega
      · have HS := Lib.hid (ht.same hb)
        have HM := Lib.hid (mask_same bits_ m hb)
        rw [show bits_ / 2 ^ m % 2 = 0 from by omega] at ea
        clear hi hb ht
        go_wp2
        go_round
        case rel => exact ⟨m + 1, _, by omega, by go_num, by rw [HM.out], HS.out⟩
        case measure => simp [intOf]; omega
    · have hfin := ht.fin hm hfn
      have hl := ht.len
      have hT2 := HT.out.below (HT.out.lt) ht.below
      have hback := fun cap => ht.cells.back (P := Tryd.prog) 28 9 5 s.size cap hl Tryd.underlying28 Tryd.underlying5 Tryd.underlying9
      have HT2 := Lib.hid hT2
      have hbel := ht.below
      have hls : (ByteArray.mk l.toArray).size ≤ maxLen := by rw [show (ByteArray.mk l.toArray).size = l.length from by simp [ByteArray.size], hl]; exact hs
      clear hT2 ht hl
      by_cases hlt3 : m < 32
      · have h7 : decide ((f : Int) + (m : Int) < 8 * (s.size : Int)) = false := by simp; omega
        clear hlt
        go_wp2_with (first | (go_at_call 8; refine (Of_calls _ _ (by assumption) HT2.out).mono ?_; rintro e w' ⟨rfl, rfl⟩) | (go_at_call 7; refine (works_calls _ HT2.out).mono ?_; rintro e w' ⟨rfl, rfl⟩))
        go_ret
        exact ⟨rfl, hbel⟩
      · have h7 : decide ((m : Int) < 32) = false := by simp; omega
        clear hlt
        go_wp2_with (first | (go_at_call 8; refine (Of_calls _ _ (by assumption) HT2.out).mono ?_; rintro e w' ⟨rfl, rfl⟩) | (go_at_call 7; refine (works_calls _ HT2.out).mono ?_; rintro e w' ⟨rfl, rfl⟩))
        go_ret
        exact ⟨rfl, hbel⟩

set_option maxHeartbeats 400000 in
/-- The law itself: nothing, or too much, too. -/
theorem CrcBursts_calls (s : ByteArray) (at_ bits_ : Nat) (w : World) (hs : s.size ≤ maxLen) (hT : TabOk w) (h3 : at_ < 4294967296) (h4 : bits_ < 4294967296) :
    Calls Tryd.prog 5 #[.string s, .int .u32 at_, .int .u32 bits_] w fun e w' => e = .returned (.bool true) ∧ Below w.heap.size w w' := by
  by_cases h1 : 0 < s.size ∧ s.size ≤ 4096
  · exact Bursts_calls s at_ bits_ w hs hT h1.1 h1.2 h3 h4
  · have HT := Lib.hid hT
    clear hT
    unfold maxLen at hs
    by_cases h2 : 4096 < s.size
    · have h6 : decide ((4096 : Int) < s.size) = true := by simp; omega
      clear h1
      go_enter Tryd.func5, Tryd.ntmps5
      go_wp2_with (go_at_call 7; refine (works_calls _ HT.out).mono ?_; rintro e w' ⟨rfl, rfl⟩)
      go_ret
      exact ⟨rfl, Below.refl _ _⟩
    · have h0 : s.size = 0 := by omega
      have h5 : ((s.size : Int) == 0) = true := by rw [h0]; rfl
      have h6 : decide ((4096 : Int) < s.size) = false := by simp; omega
      clear h1 h2 h0
      go_enter Tryd.func5, Tryd.ntmps5
      go_wp2_with (go_at_call 7; refine (works_calls _ HT.out).mono ?_; rintro e w' ⟨rfl, rfl⟩)
      go_ret
      exact ⟨rfl, Below.refl _ _⟩
end Go.Proofs.YtgnhjgpcknijnaaDoor.Crc
