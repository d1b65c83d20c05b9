/-
  NetFull (layer 30): there are never more messages under way than may be, and what is sent then is lost, and counted. No condition.
-/
import Derived.Test.YtplfnjpoikhmbaaNtTurned
open Go Go.RowKit
namespace Go.Proofs.Ytplfnjpoikhmbaa.Nt
open Base Mp

/-- n messages "x" to "a", their numbers from a on. -/
def ids (a n : Nat) : List GramD := (List.range' a n).map fun d => ⟨d, [97], [120]⟩
theorem ids_length (a n : Nat) : (ids a n).length = n := by simp [ids]
theorem ids_more (a n : Nat) : ids a n ++ [⟨a + n, [97], [120]⟩] = ids a (n + 1) := by
  unfold ids
  rw [List.range'_1_concat, List.map_append]; rfl
theorem find_ids (a n x : Nat) : findG (ids a n) x = if a ≤ x ∧ x < a + n then some ⟨x, [97], [120]⟩ else none := by
  induction n generalizing a with
  | zero =>
    rw [if_neg (by omega)]
    rfl
  | succ n ih =>
    have e : ids a (n + 1) = ⟨a, [97], [120]⟩ :: ids (a + 1) n := by unfold ids; rw [List.range'_succ]; rfl
    have := ih (a + 1)
    unfold findG at this ⊢
    rw [e, List.find?_cons]
    by_cases hx : a = x
    · subst hx
      simp
    · rw [show ((⟨a, [97], [120]⟩ : GramD).id == x) = false by simpa using hx, this]
      by_cases h : a + 1 ≤ x ∧ x < a + 1 + n
      · rw [if_pos h, if_pos (by omega)]
      · rw [if_neg h, if_neg (by omega)]
theorem drop_ids (a n : Nat) : dropG (ids a (n + 1)) a = ids (a + 1) n := by
  have e : ids a (n + 1) = ⟨a, [97], [120]⟩ :: ids (a + 1) n := by unfold ids; rw [List.range'_succ]; rfl
  have h2 := drop_none (ids (a + 1) n) a (fun g hg => by
    unfold ids at hg
    obtain ⟨d, hd, rfl⟩ := List.mem_map.1 hg
    have := List.mem_range'_1.1 hd
    simp; omega)
  unfold dropG at h2 ⊢
  rw [e, List.filter_cons, show (!((⟨a, [97], [120]⟩ : GramD).id == a)) = false by simp, h2]
  rfl
def fullN (i : Nat) : NetD := ⟨ids 1 (min i 1024), min i 1024, i - 1024⟩
theorem full_send (i : Nat) : sends [97] (fullN i) [[120]] = (fullN (i + 1), if i < 1024 then 1 else 0) := by
  show (sendN (fullN i) [97] [120], 0 + if (fullN i).G.length < 1024 then 1 else 0) = _
  have hl : (fullN i).G.length = min i 1024 := ids_length _ _
  rw [hl]
  unfold sendN
  rw [hl]
  by_cases h : i < 1024
  · rw [if_pos (by omega), if_pos h, if_pos (by omega)]
    unfold putN fullN
    rw [show min i 1024 = i by omega, show min (i + 1) 1024 = i + 1 by omega, show i - 1024 = 0 by omega, show i + 1 - 1024 = 0 by omega]
    have := ids_more 1 i
    rw [show 1 + i = i + 1 by omega] at this
    simp only
    rw [this]
  · rw [if_neg (by omega), if_neg h, if_neg (by omega)]
    unfold fullN
    rw [show min i 1024 = 1024 by omega, show min (i + 1) 1024 = 1024 by omega, show i + 1 - 1024 = i - 1024 + 1 by omega]
def goneN (m j : Nat) : NetD := ⟨ids (1 + j) (min m 1024 - j), min m 1024, m - 1024⟩
theorem gone_drop (m j : Nat) (hj : j < min m 1024) : drops (goneN m j) [j + 1] = (goneN m (j + 1), 1) := by
  show (if (findG (goneN m j).G (j + 1)).isSome then (dropN (goneN m j) (j + 1), 0 + 1) else (goneN m j, 0)) = _
  have hf : findG (goneN m j).G (j + 1) = some ⟨j + 1, [97], [120]⟩ := by
    show findG (ids (1 + j) (min m 1024 - j)) (j + 1) = _
    rw [find_ids, if_pos (by omega)]
  rw [hf]
  show (dropN (goneN m j) (j + 1), 0 + 1) = _
  unfold dropN goneN
  rw [show min m 1024 - j = (min m 1024 - (j + 1)) + 1 by omega, show j + 1 = 1 + j by omega, drop_ids, show 1 + j + 1 = 1 + (1 + j) by omega]
theorem gone_start (m : Nat) : goneN m 0 = fullN m := by unfold goneN fullN; simp
theorem gone_find (m k : Nat) (hk : k ≤ min m 1024) : findG (goneN m k).G (k + 1) = if k < min m 1024 then some ⟨k + 1, [97], [120]⟩ else none := by
  show findG (ids (1 + k) (min m 1024 - k)) (k + 1) = _
  rw [find_ids]
  by_cases h : k < min m 1024
  · rw [if_pos h, if_pos (by omega)]
  · rw [if_neg h, if_neg (by omega)]
theorem gone_double (m k : Nat) (hk : k ≤ min m 1024) : doubleV (goneN m k) (k + 1) = (if k < min m 1024 then (if min m 1024 - k < 1024 then .tuple #[.int .u64 ((min m 1024 + 1 : Nat) : Int), .int .i64 0] else .tuple #[.int .u64 0, .int .i64 6]) else .tuple #[.int .u64 0, .int .i64 5]) ∧ (doubleN (goneN m k) (k + 1)).last ≤ 1025 := by
  have hl : (goneN m k).G.length = min m 1024 - k := ids_length _ _
  have hla : (goneN m k).last = min m 1024 := rfl
  unfold doubleV doubleN
  rw [gone_find m k hk]
  by_cases h : k < min m 1024
  · rw [if_pos h, if_pos h]
    simp only [hl]
    by_cases h2 : min m 1024 - k < 1024
    · simp only [if_pos h2]
      exact ⟨rfl, by show min m 1024 + 1 ≤ 1025; omega⟩
    · simp only [if_neg h2]
      exact ⟨trivial, by rw [hla]; omega⟩
  · rw [if_neg h, if_neg h]
    exact ⟨rfl, by show min m 1024 ≤ 1025; omega⟩
set_option maxRecDepth 100000 in
set_option maxHeartbeats 8000000 in
theorem NetFull_calls (w : World) (many taken : Nat) (hma : many < 65536) (hta : taken < 65536) : Calls Try.prog 5 #[.int .u16 (many : Int), .int .u16 (taken : Int)] w fun e w' => e = .returned (.bool true) ∧ Below w.heap.size w w' := by
  have HW := Lib.hid Works_f
  have HN := Lib.hid (New_f w)
  obtain ⟨m, hm⟩ : ∃ m : Nat, m = many % 1074 := ⟨_, rfl⟩
  have hm2 : m < 1074 := by omega
  have t1 : (many : Int).tmod 1074 = (m : Int) := by rw [hm]; rfl
  have t2 : (many : Int) % 1074 = (m : Int) := by rw [hm]; rfl
  obtain ⟨tk, htk⟩ : ∃ tk : Nat, tk = taken % 100 := ⟨_, rfl⟩
  have htk2 : tk < 100 := by omega
  have t3 : (taken : Int).tmod 100 = (tk : Int) := by rw [htk]; rfl
  have t4 : (taken : Int) % 100 = (tk : Int) := by rw [htk]; rfl
  clear hm htk
  go_enter Try.func5, Try.ntmps5
  go_wp2_with fail
  with_reducible refine HN.out.mono ?_
  rintro e w1 ⟨nb, bm, rfl, hn1, hb1, hlb, hlm⟩
  have HB1 := Lib.hid hb1
  have HN1 := Lib.hid (show NetAt w1 nb bm (fullN 0) from hn1)
  have HLO := Lib.hid (And.intro hlb hlm)
  clear hn1 hb1 hlb hlm HN
  unfold ptr
  go_wp2
  go_loopw [7] (fun u wr => ∃ i : Nat, u = .int .i64 (i : Int) ∧ i ≤ m ∧ NetAt wr nb bm (fullN i) ∧ Below w.heap.size w wr) (fun u _ => m - (intOf u).toNat)
  case atStart => exact ⟨0, rfl, Nat.zero_le _, HN1.out, HB1.out⟩
  case round =>
    clear HN1 HB1
    obtain ⟨i, rfl, hi, hn, hb⟩ := hrel
    have HNi := Lib.hid hn
    have HBi := Lib.hid hb
    by_cases hlt : i < m
    · have tl : (i : Int) < (m : Int) := by omega
      have hr : Below wr.heap.size wr (wr.alloc (.cells #[.string ⟨#[120]⟩] 9)) := (Below.refl _ _).alloc (Nat.le_refl _) _
      have hc := cells_made wr #[.string ⟨#[120]⟩] 9
      have hs := Send_f (hn.next hr) [97] [[120]] wr.heap.size 1 (fun j hj => by
          have hj2 : j < 1 := hj
          have := (hc j hj2).1
          rw [this]
          have : j = 0 := by omega
          subst this
          rfl) (by have := hn.lt; omega) (by have := hn.map.lt; omega) (by show min i 1024 + 1 < _; omega) (by show (i - 1024) + 1 < _; omega)
      rw [full_send] at hs
      have HS : Hid (Calls Try.prog 10 #[.pointer (some ⟨nb, 0, none⟩), .string ⟨#[97]⟩, .slice (some ⟨wr.heap.size, 0, none⟩) 1 1] (wr.alloc (.cells #[.string ⟨#[120]⟩] 9)) fun e w' => e = .returned (.int .i64 (((if i < 1024 then 1 else 0 : Nat)) : Int)) ∧ NetAt w' nb bm (fullN (i + 1)) ∧ Kept (fun i => i = nb ∨ i = bm) (wr.alloc (.cells #[.string ⟨#[120]⟩] 9)) w') := hs
      have HB2 := Lib.hid (hb.alloc hb.size (.cells #[.string ⟨#[120]⟩] 9))
      clear hn hb hr hc hs
      go_wp2_with fail
      with_reducible refine HS.out.mono ?_
      rintro e w3 ⟨rfl, hn3, hk3⟩
      have HN3 := Lib.hid hn3
      have HB3 := Lib.hid (HB2.out.trans (hk3.below (fun i hi => by have := HLO.out; show w.heap.size ≤ i; rcases hi with rfl | rfl <;> omega) HB2.out.size))
      clear hn3 hk3 HS HB2
      by_cases h1 : i < 1024
      · rw [if_pos h1]
        have tm : (i : Int) < 1024 := by omega
        go_wp2
        go_roundw
        case rel => first | exact ⟨i + 1, by go_num, by omega, HN3.out, HB3.out⟩ | ((repeat apply Exists.intro); exact ⟨⟨i + 1, by go_num, by omega, HN3.out, HB3.out⟩, rfl⟩)
        case measure => simp [intOf]; omega
      · rw [if_neg h1]
        have tm : ¬ (i : Int) < 1024 := by omega
        go_wp2
        go_roundw
        case rel => first | exact ⟨i + 1, by go_num, by omega, HN3.out, HB3.out⟩ | ((repeat apply Exists.intro); exact ⟨⟨i + 1, by go_num, by omega, HN3.out, HB3.out⟩, rfl⟩)
        case measure => simp [intOf]; omega
    · have tl : ¬ (i : Int) < (m : Int) := by omega
      obtain rfl : i = m := by omega
      obtain ⟨LO, hLO⟩ : ∃ LO : Nat, LO = i - 1024 := ⟨_, rfl⟩
      obtain ⟨M, hM⟩ : ∃ M : Nat, M = min i 1024 := ⟨_, rfl⟩
      obtain ⟨k, hk⟩ : ∃ k : Nat, k = min tk M := ⟨_, rfl⟩
      have v1 : max ((i : Int) - 1024) 0 = (LO : Int) := by omega
      have v2 : (i : Int) - (LO : Int) = (M : Int) := by omega
      have v3 : min (tk : Int) (M : Int) = (k : Int) := by omega
      have v4 : IntKind.u64.wrap (LO : Int) = (LO : Int) := by rw [IntKind.wrap_u64]; omega
      have hl : Calls Try.prog 17 #[.pointer (some ⟨nb, 0, none⟩)] wr fun e w' => e = .returned (.int .u64 (LO : Int)) ∧ w' = wr := by rw [hLO]; exact Lost_f hn
      have HL := Lib.hid hl
      have HK := Lib.hid (And.intro hk (And.intro hM hLO))
      have HG0 := Lib.hid (show NetAt wr nb bm (goneN i 0) by rw [gone_start]; exact hn)
      clear hn hb hl hk hM hLO
      go_wp2_with fail
      with_reducible refine HL.out.mono ?_
      rintro e w3 ⟨rfl, rfl⟩
      go_wp2
      go_loopw [11] (fun u wx => ∃ j : Nat, u = .int .i64 (j : Int) ∧ j ≤ k ∧ NetAt wx nb bm (goneN i j) ∧ Below w.heap.size w wx) (fun u _ => k - (intOf u).toNat)
      case atStart => exact ⟨0, rfl, Nat.zero_le _, HG0.out, HBi.out⟩
      case round =>
        clear HG0 HBi HNi
        obtain ⟨j, rfl, hj, hn, hb⟩ := hrel
        have HNj := Lib.hid hn
        have HBj := Lib.hid hb
        by_cases hjk : j < k
        · have tl2 : (j : Int) < (k : Int) := by omega
          have hjm : j < min i 1024 := by have := HK.out; omega
          have w4 : IntKind.u64.wrap (j : Int) = (j : Int) := by rw [IntKind.wrap_u64]; omega
          have w5 : IntKind.u64.wrap ((j : Int) + 1) = (j : Int) + 1 := by rw [IntKind.wrap_u64]; omega
          have hr : Below wr.heap.size wr (wr.alloc (.cells #[.int .u64 ((j : Int) + 1)] 28)) := (Below.refl _ _).alloc (Nat.le_refl _) _
          have hc := cells_made wr #[.int .u64 ((j : Int) + 1)] 28
          have hs := Drop_f (hn.next hr) [j + 1] wr.heap.size 1 (fun q hq => by
              have hq2 : q < 1 := hq
              have := (hc q hq2).1
              rw [this]
              have : q = 0 := by omega
              subst this
              rfl) (by have := hn.map.lt; omega) (by intro n hn; simp at hn; omega) (by show 1 < _; omega)
          rw [gone_drop i j hjm] at hs
          have HS : Hid (Calls Try.prog 15 #[.pointer (some ⟨nb, 0, none⟩), .slice (some ⟨wr.heap.size, 0, none⟩) 1 1] (wr.alloc (.cells #[.int .u64 ((j : Int) + 1)] 28)) fun e w' => e = .returned (.int .i64 1) ∧ NetAt w' nb bm (goneN i (j + 1)) ∧ Kept (fun i => i = bm) (wr.alloc (.cells #[.int .u64 ((j : Int) + 1)] 28)) w') := hs
          have HB2 := Lib.hid (hb.alloc hb.size (.cells #[.int .u64 ((j : Int) + 1)] 28))
          clear hn hb hr hc hs
          go_wp2_with fail
          with_reducible refine HS.out.mono ?_
          rintro e w6 ⟨rfl, hn6, hk6⟩
          have HN6 := Lib.hid hn6
          have HB6 := Lib.hid (HB2.out.trans (hk6.below (fun i hi => by have := HLO.out; show w.heap.size ≤ i; omega) HB2.out.size))
          clear hn6 hk6 HS HB2
          go_wp2
          go_roundw
          case rel => first | exact ⟨j + 1, by go_num, by omega, HN6.out, HB6.out⟩ | ((repeat apply Exists.intro); exact ⟨⟨j + 1, by go_num, by omega, HN6.out, HB6.out⟩, rfl⟩)
          case measure => simp [intOf]; omega
        · have tl2 : ¬ (j : Int) < (k : Int) := by omega
          obtain rfl : j = k := by omega
          have hkm : j ≤ min i 1024 := by have := HK.out; omega
          have w4 : IntKind.u64.wrap (j : Int) = (j : Int) := by rw [IntKind.wrap_u64]; have := HK.out; omega
          have w5 : IntKind.u64.wrap ((j : Int) + 1) = (j : Int) + 1 := by rw [IntKind.wrap_u64]; have := HK.out; omega
          obtain ⟨hd1, hd2⟩ := gone_double i j hkm
          have hdb := Double_f hn (j + 1) (by have := HK.out; omega) (by show min i 1024 < _; omega)
          rw [hd1, show ((j + 1 : Nat) : Int) = (j : Int) + 1 by omega, ← HK.out.2.1] at hdb
          have HD := Lib.hid hdb
          have HD2 := Lib.hid hd2
          have hjM : j ≤ M := by rw [HK.out.2.1]; exact hkm
          have hM2 : M ≤ 1024 := by rw [HK.out.2.1]; omega
          unfold ptr at HD
          clear hn hb hd1 hd2 hdb
          obtain ⟨C, hC⟩ : ∃ C : Nat, C = M - j := ⟨_, rfl⟩
          have v5 : (M : Int) - (j : Int) = (C : Int) := by omega
          have v6 : (i : Int) - (LO : Int) - (j : Int) = (C : Int) := by omega
          go_wp2_with fail
          refine HD.out.mono ?_
          rintro e w6 ⟨rfl, hn6, hk6⟩
          have HN6 := Lib.hid hn6
          have HB6 := Lib.hid (HBj.out.trans (hk6.below (fun i hi => by have := HLO.out; show w.heap.size ≤ i; rcases hi with rfl | rfl <;> omega) HBj.out.size))
          have HA := Lib.hid (All_f hn6 (by have := HD2.out; omega))
          have hfew := hn6.fine.few
          unfold ptr at HA
          clear hn6 hk6
          generalize doubleN (goneN i j) (j + 1) = ND at *
          by_cases h1 : j < M
          · rw [if_pos h1]
            have x1 : (j : Int) < (M : Int) := by omega
            by_cases h2 : M - j < 1024
            · rw [if_pos h2]
              have x2 : 0 < (1024 : Int) - (C : Int) := by omega
              have x3 : (C : Int) < 1024 := by omega
              go_wp2_with fail
              with_reducible refine HA.out.mono ?_
              rintro e w7 ⟨v, rfl, hr7, hb7⟩
              have HB7 := Lib.hid (HB6.out.trans (hb7.mono HB6.out.size))
              obtain ⟨p, cap, rfl⟩ := own_slice hr7
              have x9 : (ND.G.length : Int) ≤ 1024 := by omega
              clear hr7 hb7 HB6 HA
              go_wp2_with fail
              with_reducible refine (HW.out _).mono ?_
              rintro e w8 ⟨rfl, hb8⟩
              have HB8 := Lib.hid (HB7.out.trans (hb8.mono HB7.out.size))
              clear hb8
              go_wp2
              go_ret
              exact ⟨rfl, HB8.out⟩
            · rw [if_neg h2]
              have x2 : ¬ 0 < (1024 : Int) - (C : Int) := by omega
              have x3 : ¬ (C : Int) < 1024 := by omega
              have x4 : ((1024 : Int) - (C : Int) == 0) = true := by rw [beq_iff_eq]; omega
              have x5 : (1024 : Int) - (C : Int) = 0 := by omega
              go_wp2_with fail
              with_reducible refine HA.out.mono ?_
              rintro e w7 ⟨v, rfl, hr7, hb7⟩
              have HB7 := Lib.hid (HB6.out.trans (hb7.mono HB6.out.size))
              obtain ⟨p, cap, rfl⟩ := own_slice hr7
              have x9 : (ND.G.length : Int) ≤ 1024 := by omega
              clear hr7 hb7 HB6 HA
              go_wp2_with fail
              with_reducible refine (HW.out _).mono ?_
              rintro e w8 ⟨rfl, hb8⟩
              have HB8 := Lib.hid (HB7.out.trans (hb8.mono HB7.out.size))
              clear hb8
              go_wp2
              go_ret
              exact ⟨rfl, HB8.out⟩
          · rw [if_neg h1]
            have x1 : ¬ (j : Int) < (M : Int) := by omega
            go_wp2_with fail
            with_reducible refine HA.out.mono ?_
            rintro e w7 ⟨v, rfl, hr7, hb7⟩
            have HB7 := Lib.hid (HB6.out.trans (hb7.mono HB6.out.size))
            obtain ⟨p, cap, rfl⟩ := own_slice hr7
            have x9 : (ND.G.length : Int) ≤ 1024 := by omega
            clear hr7 hb7 HB6 HA
            go_wp2_with fail
            with_reducible refine (HW.out _).mono ?_
            rintro e w8 ⟨rfl, hb8⟩
            have HB8 := Lib.hid (HB7.out.trans (hb8.mono HB7.out.size))
            clear hb8
            go_wp2
            go_ret
            exact ⟨rfl, HB8.out⟩
end Go.Proofs.Ytplfnjpoikhmbaa.Nt
