/-
  A store's names (layer 9): the walks of strconv.FormatUint (by the shelf's contracts of what it calls), strconv.ParseUint, name, number. No condition but what each says.
-/
import Derived.Lib.AppendIntMem
import Derived.Lib.AtoiErrMem
import Derived.Test.YtmejdcnnpenaaaaGreatDoorZStNames
import Derived.Test.YtmejdcnnpenaaaaGreatDoorZStShelf
import Derived.Test.YtmejdcnnpenaaaaGreatDoorZRepeat
open Go Go.RowKit Go.Sort
namespace Go.Proofs.YtmejdcnnpenaaaaGreatDoor.St
open Base Mp Dk Frame Lg

/-- The library's table of powers of ten, as the program's start lays it. -/
def PowOk (w : World) : Prop := Lib.TabIs Tryz.prog w "internal/strconv.uint64pow10" .u64 Lib.pow10Tab
set_option maxRecDepth 100000 in
theorem FormatI_small (u : Nat) (hu : u < 100) (w : World) : Calls Tryz.prog 79 #[.int .u64 (u : Nat), .int .i64 10] w fun e w' => e = .returned (.string (B (Lib.decDigits u))) ∧ w = w' := by
  have hw : IntKind.i64.wrap (u : Int) = (u : Int) := by rw [IntKind.wrap_i64]; omega
  go_enter Tryz.func79, Tryz.ntmps79
  go_wp2_with fail
  refine (Tryz.internal_strconv_small u hu _).mono ?_
  rintro e w' ⟨rfl, rfl⟩
  go_wp2
  go_ret
  exact ⟨rfl, rfl⟩
set_option maxRecDepth 100000 in
theorem FormatI_big (u : Nat) (hu : 100 ≤ u) (hu64 : u < 18446744073709551616) (w : World) (hP : PowOk w) : Calls Tryz.prog 79 #[.int .u64 (u : Nat), .int .i64 10] w fun e w' => e = .returned (.string (B (Lib.decDigits u))) ∧ ∃ k os, w' = grow (w.drewN k) os := by
  have hu1 : 1 ≤ u := by omega
  have hnd20 : Lib.nDigits u ≤ 20 := by have := Lib.numDigits_eq u hu1 hu64; split at this <;> omega
  have hal : Tryz.prog.arrayLen 124 = 24 := by kernel_rfl
  have hsl : ∀ W, (Instr.sliceAt 124 (.pointer (some ⟨w.heap.size, 0, none⟩)) none (some (.int .i64 (Lib.nDigits u : Int))) none).run Tryz.prog W = .ok (.slice (some ⟨w.heap.size, 0, none⟩) (Lib.nDigits u) 24) W := fun W => by
    rw [run_sliceAt_array_h W 124 ⟨w.heap.size, 0, none⟩ (by kernel_rfl) .i64 (Lib.nDigits u : Int) (by omega) (by rw [hal]; omega)]
    rw [hal, Int.toNat_natCast, show Tryz.prog.elem 124 = 5 from by kernel_rfl]
    go_simp
  have hH0 := Lib.holds_zero0 w 124 (Lib.nDigits u) (by omega)
  have hfmt := Tryz.internal_strconv_formatBase10 w.heap.size 0 24 u (Array.replicate (Lib.nDigits u) 0) (w.alloc (.cells Lib.zeros24 124)) hH0 (by rw [Array.size_replicate]; exact Lib.lt_pow_nDigits u) hu64 (by rw [Array.size_replicate]; omega)
  rw [Array.size_replicate] at hfmt
  have HH0 := Lib.hid hH0
  have iu : (100 : Int) ≤ (u : Int) := by omega
  clear hH0 hal
  go_enter Tryz.func79, Tryz.ntmps79
  go_wp2_with fail
  refine (Tryz.internal_strconv_numDigits u hu1 hu64 _ (Lib.tabIs_alloc hP _)).mono ?_
  rintro e w' ⟨rfl, rfl⟩
  go_wp2_with fail
  refine hfmt.mono ?_
  rintro e w' ⟨rfl, k, v', dk, rfl, hF⟩
  have hcv : (convert 41 9 (.slice (some ⟨w.heap.size, 0, none⟩) (Lib.nDigits u) 24)).run Tryz.prog ((putRow (fun (b : UInt8) => Value.int .u8 (b.toNat : Int)) (w.alloc (.cells Lib.zeros24 124)) w.heap.size 0 dk).drewN k) = .ok (.string ⟨(Lib.decDigits u).toArray⟩) ((putRow (fun (b : UInt8) => Value.int .u8 (b.toNat : Int)) (w.alloc (.cells Lib.zeros24 124)) w.heap.size 0 dk).drewN k) := by
    have h := run_convert_bytes_back (P := Tryz.prog) ((putRow (fun (b : UInt8) => Value.int .u8 (b.toNat : Int)) (w.alloc (.cells Lib.zeros24 124)) w.heap.size 0 dk).drewN k) 41 9 5 ⟨w.heap.size, 0, none⟩ 24 (Lib.decDigits u) (by kernel_rfl) (by kernel_rfl) (by kernel_rfl) (fun j hj => by
      rw [Lib.row_is_numeral hF j hj, Lib.add_plain, World.cell?_drewN]
      exact cell?_putRow (fun (b : UInt8) => Value.int .u8 (b.toNat : Int)) _ w.heap.size 0 _ dk HH0.out (by rw [hF.size, Array.size_replicate]) j (by rw [hF.size]; rw [Lib.decDigits_length] at hj; exact hj))
    rw [Lib.decDigits_length] at h
    exact h
  go_wp2
  go_ret
  obtain ⟨os, eo⟩ := Lib.fin_at w (.cells Lib.zeros24 124) dk k 0
  exact ⟨rfl, k, os, eo⟩
theorem PowOk.next {w w' : World} (h : PowOk w) (hb : Below w.heap.size w w') : PowOk w' := by
  unfold PowOk Lib.TabIs World.var? at *
  cases hg : Tryz.prog.globalNamed "internal/strconv.uint64pow10" with
  | none => simp [hg] at h
  | some g =>
    simp only [hg, Option.bind_some] at h ⊢
    have hlt : g < w.heap.size := by
      rcases Nat.lt_or_ge g w.heap.size with h' | h'
      · exact h'
      · rw [Array.getElem?_eq_none h'] at h; simp at h
    rw [hb.block g hlt]
    exact h
theorem FormatI (u : Nat) (hu64 : u < 18446744073709551616) (w : World) (hP : PowOk w) : Calls Tryz.prog 79 #[.int .u64 (u : Nat), .int .i64 10] w fun e w' => e = .returned (.string (B (Lib.decDigits u))) ∧ Below w.heap.size w w' := by
  by_cases hu : u < 100
  · refine (FormatI_small u hu w).mono ?_
    rintro e w' ⟨rfl, rfl⟩
    exact ⟨rfl, Below.refl _ _⟩
  · refine (FormatI_big u (by omega) hu64 w hP).mono ?_
    rintro e w' ⟨rfl, k, os, rfl⟩
    exact ⟨rfl, Lib.below_grow _ w (Nat.le_refl _) k os⟩
theorem FormatUint_f (u : Nat) (hu64 : u < 18446744073709551616) (w : World) (hP : PowOk w) : Calls Tryz.prog 51 #[.int .u64 (u : Nat), .int .i64 10] w fun e w' => e = .returned (.string (B (Lib.decDigits u))) ∧ Below w.heap.size w w' := by
  go_enter Tryz.func51, Tryz.ntmps51
  go_wp2_with fail
  refine (FormatI u hu64 w hP).mono ?_
  rintro e w' ⟨rfl, hb⟩
  go_wp2
  go_ret
  exact ⟨rfl, hb⟩
theorem repeat_one (c : UInt8) : ∀ n, Lib.repeatL [c] n = List.replicate n c
  | 0 => rfl
  | n + 1 => by rw [Lib.repeatL, repeat_one c n]; rfl
theorem Name_f (h : Key) (hh : h.length ≤ 100) (n : Nat) (hn : n ≤ 18446744073709551615) (w : World) (hP : PowOk w) : Calls Tryz.prog 26 #[.string (B h), .int .u64 (n : Nat)] w fun e w' => e = .returned (.string (B (h ++ dec20 n))) ∧ Below w.heap.size w w' := by
  have hl := digits_len (n := n) (by omega)
  have C1 := Lib.hid (FormatUint_f n (by omega) w hP)
  obtain ⟨d, hd⟩ : ∃ d, d = Lib.decDigits n := ⟨_, rfl⟩
  rw [← hd] at C1 hl
  have hsz : (B d).size = d.length := B_size d
  have e1 : (20 : Int) - (d.length : Int) = ((20 - d.length : Nat) : Int) := by omega
  have w1 : IntKind.i64.wrap ((20 : Int) - (d.length : Int)) = ((20 - d.length : Nat) : Int) := by rw [e1, IntKind.wrap_i64]; omega
  have C2 : ∀ W, Calls Tryz.prog 52 #[.string ⟨#[48]⟩, .int .i64 ((20 - d.length : Nat) : Int)] W fun e w' => e = .returned (.string (B (List.replicate (20 - d.length) 48))) ∧ Below W.heap.size W w' := fun W => by
    have h := Rep.Repeat ⟨#[48]⟩ (20 - d.length) W (by omega) (by show 1 * _ ≤ _; omega)
    rw [repeat_one] at h
    exact h
  have HE := Lib.hid (show h ++ dec20 n = h ++ (List.replicate (20 - d.length) 48 ++ d) by unfold dec20; rw [hd])
  clear hn hP e1 hd
  go_enter Tryz.func26, Tryz.ntmps26
  go_wp2_with fail
  refine C1.out.mono ?_
  rintro e w1 ⟨rfl, hb1⟩
  go_wp2_with fail
  refine (C2 w1).mono ?_
  rintro e w2 ⟨rfl, hb2⟩
  go_wp2
  go_ret
  refine ⟨?_, hb1.trans (hb2.mono hb1.size)⟩
  rw [HE.out]
  rfl
theorem prefix_own (h t : Key) : Lib.hasPrefix (h ++ t) h = true ∧ Lib.trimPrefix (h ++ t) h = t := by
  have h1 : Lib.hasPrefix (h ++ t) h = true := by
    unfold Lib.hasPrefix
    rw [List.isPrefixOf_iff_prefix]
    exact List.prefix_append h t
  refine ⟨h1, ?_⟩
  unfold Lib.trimPrefix
  rw [if_pos h1, List.drop_left]
theorem ParseUint_f (n : Nat) (hn : n ≤ 18446744073709551615) (w : World) : Calls Tryz.prog 77 #[.string (B (dec20 n)), .int .i64 10, .int .i64 64] w fun e w' => e = .returned (.tuple #[.int .u64 (n : Nat), .nilIface]) ∧ Below w.heap.size w w' := by
  have C := Tryz.internal_strconv_ParseUint_10_at64 (B (dec20 n)) (by rw [B_size, dec20_len (by omega)]; omega) w
  rw [show (B (dec20 n)).data.toList = dec20 n from rfl, parse20 hn] at C
  have C := Lib.hid C
  clear hn
  go_enter Tryz.func77, Tryz.ntmps77
  go_wp2_with fail
  refine C.out.mono ?_
  rintro e w1 ⟨rfl, hw⟩
  have hb : Below w.heap.size w w1 := by
    rcases hw with rfl | rfl
    · exact Below.refl _ _
    · exact Lib.bytesWorld_below _ _ _
  clear hw
  unfold Lib.uintTupleM
  go_wp2
  go_ret2
  exact ⟨rfl, hb⟩
theorem Number_yes (h : Key) (n : Nat) (hn : n ≤ 18446744073709551609) (w : World) : Calls Tryz.prog 48 #[.string (B (h ++ dec20 n)), .string (B h)] w fun e w' => e = .returned (.tuple #[.int .u64 (n : Nat), .bool true]) ∧ Below w.heap.size w w' := by
  have C1 := Tryz.strings_CutPrefix (B (h ++ dec20 n)) (B h) w
  rw [show (B (h ++ dec20 n)).data.toList = h ++ dec20 n from rfl, show (B h).data.toList = h from rfl, (prefix_own h _).1, (prefix_own h _).2] at C1
  have hl : (dec20 n).length = 20 := dec20_len (by omega)
  have C2 := Lib.hid (ParseUint_f n (by omega))
  generalize hd : dec20 n = d at C1 C2 hl ⊢
  clear hd
  have C1 := Lib.hid C1
  have hsz : (B d).size = d.length := B_size d
  have q : decide ((18446744073709551609 : Int) < (n : Int)) = false := by rw [decide_eq_false_iff_not]; omega
  clear hn
  go_enter Tryz.func48, Tryz.ntmps48
  go_wp2_with fail
  refine C1.out.mono ?_
  rintro e w1 ⟨rfl, rfl⟩
  go_wp2_with fail
  refine (C2.out _).mono ?_
  rintro e w1 ⟨rfl, hb⟩
  go_wp2
  go_ret2
  exact ⟨rfl, hb⟩
theorem Number_no (f h : Key) (hp : Lib.hasPrefix f h = false) (w : World) : Calls Tryz.prog 48 #[.string (B f), .string (B h)] w fun e w' => e = .returned (.tuple #[.int .u64 0, .bool false]) ∧ w = w' := by
  have C1 := Tryz.strings_CutPrefix (B f) (B h) w
  rw [show (B f).data.toList = f from rfl, show (B h).data.toList = h from rfl, hp] at C1
  have C1 := Lib.hid C1
  clear hp
  go_enter Tryz.func48, Tryz.ntmps48
  go_wp2_with fail
  refine C1.out.mono ?_
  rintro e w1 ⟨rfl, rfl⟩
  go_wp2
  go_ret2
  exact ⟨rfl, rfl⟩
end Go.Proofs.YtmejdcnnpenaaaaGreatDoor.St
