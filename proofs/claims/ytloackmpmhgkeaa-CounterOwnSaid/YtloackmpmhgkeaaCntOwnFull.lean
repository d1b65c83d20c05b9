/-
  Counters (layer 12): the walk of CounterOwn where a path's numbers leave the numbers. No condition.
-/
import Derived.Test.YtloackmpmhgkeaaCntOwn
open Go Go.RowKit Go.Maps
namespace Go.Proofs.Ytloackmpmhgkeaa.Cnt
open Base Mp

def flag (l : List CntD) (k : Key) (i : Nat) : Bool := (l.take i).any fun c => c.by_ == k
theorem flag_succ (l : List CntD) (k : Key) (i : Nat) (h : i < l.length) : flag l k (i + 1) = (flag l k i || (l[i]).by_ == k) := by
  unfold flag
  rw [List.take_succ_eq_append_getElem h, List.any_append]
  simp
theorem flag_all {l : List CntD} {k : Key} (h : fOf l k ≠ (0, 0)) : flag l k l.length = true := by
  unfold flag
  rw [List.take_length, List.any_eq_true]
  obtain ⟨c, hc, rfl⟩ := List.mem_map.1 (fOf_mem l k h)
  exact ⟨c, hc, by simp⟩
set_option maxRecDepth 100000 in
set_option maxHeartbeats 4000000 in
theorem Own_full (w : World) (p : Option Addr) (cap : Nat) (l : List CntD) (k o : Key) (n : Int) (h : CntsArg w p l) (la : ¬ 60 < (l.length : Int)) (hm : may l = true) (n1 : -9223372036854775808 ≤ n) (n2 : n ≤ 9223372036854775807)
    (hr : -9223372036854775808 ≤ valE l + n ∧ valE l + n ≤ 9223372036854775807) (hbad : 2 ^ 63 < (fOf l k).1 + n.toNat ∨ 2 ^ 63 < (fOf l k).2 + (-n).toNat) (hk : k.length ≤ maxLen) :
    Calls Try.prog 6 #[.slice p l.length cap, .string (B k), .string (B o), .int .i64 n] w fun e w' => e = .returned (.bool true) ∧ Below w.heap.size w w' := by
  have HA := Lib.hid h
  have H1 := Lib.hid (May_f w p cap l HA.out (by omega))
  rw [hm] at H1
  have HV := valE_in l
  have HBAD := Lib.hid hbad
  have HM := Lib.hid hm
  have HR := Lib.hid hr
  have HK := Lib.hid hk
  clear h hm hbad hr hk
  go_enter Try.func6, Try.ntmps6
  go_wp2_with (go_at_call 7; with_reducible refine (Long_f _ _ _ _).mono ?_; rintro e w' ⟨rfl, rfl⟩)
  with_reducible refine H1.out.mono ?_
  rintro e w1 ⟨rfl, hb1⟩
  have HB1 := Lib.hid hb1
  have HA1 := Lib.hid (HA.out.below hb1)
  clear hb1 H1
  go_wp2_with fail
  with_reducible refine (Value_f w1 p cap l HA1.out (by omega)).mono ?_
  rintro e w2 ⟨rfl, hb2⟩
  have HB2 := Lib.hid (later HB1.out hb2)
  have HA2 := Lib.hid (HA1.out.below hb2)
  clear hb2 HB1 HA1
  have H3 := Lib.hid (Add_full w2 p cap l k n HA2.out (by omega) HK.out n1 n2 HR.out HBAD.out)
  go_wp2_with fail
  with_reducible refine H3.out.mono ?_
  rintro e w3 ⟨rfl, hb3⟩
  have HB3 := Lib.hid (later HB2.out hb3)
  have HA3 := Lib.hid (HA2.out.below hb3)
  clear hb3 HB2 HA2 H3
  have hbad := HBAD.out
  have hr := HR.out
  have HFL := Lib.hid (show fOf l k ≠ (0, 0) from fun e => by rw [e] at hbad; simp only at hbad; omega)
  clear HBAD HR
  generalize valE l = va at *
  obtain ⟨v1, v2⟩ := HV
  obtain ⟨r1, r2⟩ := hr
  have hle : (l.length : Int) ≤ 60 := by omega
  generalize hpm : fOf l k = PM at *
  obtain ⟨P, M⟩ := PM
  have HPM := Lib.hid hpm
  simp only at hbad
  clear hpm
  have hcase : 0 < n ∨ n = 0 ∨ n < 0 := by omega
  rcases hcase with hp | hp | hp
  · obtain ⟨u, rfl⟩ : ∃ u : Nat, n = (u : Int) := ⟨n.toNat, by omega⟩
    have e0 : (-(u : Int)).toNat = 0 := by omega
    rw [e0] at hbad
    simp only [Int.toNat_natCast] at hbad
    have HBAD := Lib.hid hbad
    have hdec : decide (va + (u : Int) < va) = false := decide_eq_false (by omega)
    clear hbad e0
    go_wp2
    clear hdec
    clear r1 r2
    go_loop [13, 16] (fun v x => ∃ i : Nat, v = .bool (flag l k i) ∧ x = .int .i64 (i : Int) ∧ i ≤ l.length) (fun _ x => l.length - (intOf x).toNat)
    case atStart => exact ⟨0, rfl, rfl, Nat.zero_le _⟩
    case round =>
      obtain ⟨i, rfl, rfl, hi⟩ := hrel
      by_cases hlt : i < l.length
      · have HLT := Lib.hid hlt
        have HFS := Lib.hid (flag_succ l k i hlt)
        obtain ⟨bb, oo, rfl, hca, -⟩ := HA3.out i hlt
        have HEQ := Lib.hid (may_fOf HM.out i hlt)
        obtain ⟨c0, c1, c2⟩ := hca
        generalize l[i] = c at *
        cases hfl : flag l k i
        · by_cases hck : c.by_ = k
          · have t0 : (c.by_ == k) = true := by simpa using hck
            have hpm := HEQ.out
            rw [hck, HPM.out] at hpm
            injection hpm with hp1 hp2
            rw [← hp1] at c1
            rw [← hp2] at c2
            clear hp1 hp2 hck
            have HT := Lib.hid t0
            have hbad := HBAD.out
            by_cases a1 : 9223372036854775808 < P
            · clear hbad
              go_wp2
              go_round
              case rel => exact ⟨i + 1, by rw [HFS.out, HT.out, Bool.or_true], by go_num, HLT.out⟩
              case measure => have := HLT.out; simp [intOf]; omega
            · by_cases a3 : 9223372036854775808 < M
              · clear hbad
                go_wp2
                go_round
                case rel => exact ⟨i + 1, by rw [HFS.out, HT.out, Bool.or_true], by go_num, HLT.out⟩
                case measure => have := HLT.out; simp [intOf]; omega
              · by_cases a2 : 9223372036854775808 < P + u
                · first
                  | (exfalso; omega)
                  | (have a2' : 9223372036854775808 - (P : Int) < ((u : Nat) : Int) := by omega
                     clear hbad a2
                     go_wp2
                     go_round
                     case rel => exact ⟨i + 1, by rw [HFS.out, HT.out, Bool.or_true], by go_num, HLT.out⟩
                     case measure => have := HLT.out; simp [intOf]; omega)
                · first
                  | (exfalso; omega)
                  | (have a2' : ((u : Nat) : Int) ≤ 9223372036854775808 - (P : Int) := by omega
                     have a4 : 9223372036854775808 - (M : Int) < ((0 : Nat) : Int) := by omega
                     clear hbad a2
                     go_wp2
                     go_round
                     case rel => exact ⟨i + 1, by rw [HFS.out, HT.out, Bool.or_true], by go_num, HLT.out⟩
                     case measure => have := HLT.out; simp [intOf]; omega)
          · have t0 : (c.by_ == k) = false := by simpa using hck
            have HT := Lib.hid (And.intro hfl t0)
            clear hck
            go_wp2
            go_round
            case rel => exact ⟨i + 1, by rw [HFS.out, HT.out.1, HT.out.2]; rfl, by go_num, HLT.out⟩
            case measure => have := HLT.out; simp [intOf]; omega
        · have HT := Lib.hid hfl
          go_wp2
          go_round
          case rel => exact ⟨i + 1, by rw [HFS.out, HT.out, Bool.true_or], by go_num, HLT.out⟩
          case measure => have := HLT.out; simp [intOf]; omega
      · obtain rfl : i = l.length := by omega
        have hfl := flag_all (by rw [HPM.out]; exact HFL.out)
        go_wp2_with fail
        with_reducible refine (Alive_f w3).mono ?_
        rintro e w4 ⟨rfl, hb4⟩
        have HB4 := Lib.hid (later HB3.out hb4)
        clear hb4
        go_wp2
        go_ret
        exact ⟨rfl, HB4.out⟩
  · subst hp
    simp only [Int.neg_zero, Int.toNat_zero] at hbad
    have HBAD := Lib.hid hbad
    clear hbad
    go_wp2
    clear r1 r2
    go_loop [13, 16] (fun v x => ∃ i : Nat, v = .bool (flag l k i) ∧ x = .int .i64 (i : Int) ∧ i ≤ l.length) (fun _ x => l.length - (intOf x).toNat)
    case atStart => exact ⟨0, rfl, rfl, Nat.zero_le _⟩
    case round =>
      obtain ⟨i, rfl, rfl, hi⟩ := hrel
      by_cases hlt : i < l.length
      · have HLT := Lib.hid hlt
        have HFS := Lib.hid (flag_succ l k i hlt)
        obtain ⟨bb, oo, rfl, hca, -⟩ := HA3.out i hlt
        have HEQ := Lib.hid (may_fOf HM.out i hlt)
        obtain ⟨c0, c1, c2⟩ := hca
        generalize l[i] = c at *
        cases hfl : flag l k i
        · by_cases hck : c.by_ = k
          · have t0 : (c.by_ == k) = true := by simpa using hck
            have hpm := HEQ.out
            rw [hck, HPM.out] at hpm
            injection hpm with hp1 hp2
            rw [← hp1] at c1
            rw [← hp2] at c2
            clear hp1 hp2 hck
            have HT := Lib.hid t0
            have hbad := HBAD.out
            by_cases a1 : 9223372036854775808 < P
            · clear hbad
              go_wp2
              go_round
              case rel => exact ⟨i + 1, by rw [HFS.out, HT.out, Bool.or_true], by go_num, HLT.out⟩
              case measure => have := HLT.out; simp [intOf]; omega
            · by_cases a3 : 9223372036854775808 < M
              · clear hbad
                go_wp2
                go_round
                case rel => exact ⟨i + 1, by rw [HFS.out, HT.out, Bool.or_true], by go_num, HLT.out⟩
                case measure => have := HLT.out; simp [intOf]; omega
              · by_cases a2 : 9223372036854775808 < P + 0
                · first
                  | (exfalso; omega)
                  | (have a2' : 9223372036854775808 - (P : Int) < ((0 : Nat) : Int) := by omega
                     clear hbad a2
                     go_wp2
                     go_round
                     case rel => exact ⟨i + 1, by rw [HFS.out, HT.out, Bool.or_true], by go_num, HLT.out⟩
                     case measure => have := HLT.out; simp [intOf]; omega)
                · first
                  | (exfalso; omega)
                  | (have a2' : ((0 : Nat) : Int) ≤ 9223372036854775808 - (P : Int) := by omega
                     have a4 : 9223372036854775808 - (M : Int) < ((0 : Nat) : Int) := by omega
                     clear hbad a2
                     go_wp2
                     go_round
                     case rel => exact ⟨i + 1, by rw [HFS.out, HT.out, Bool.or_true], by go_num, HLT.out⟩
                     case measure => have := HLT.out; simp [intOf]; omega)
          · have t0 : (c.by_ == k) = false := by simpa using hck
            have HT := Lib.hid (And.intro hfl t0)
            clear hck
            go_wp2
            go_round
            case rel => exact ⟨i + 1, by rw [HFS.out, HT.out.1, HT.out.2]; rfl, by go_num, HLT.out⟩
            case measure => have := HLT.out; simp [intOf]; omega
        · have HT := Lib.hid hfl
          go_wp2
          go_round
          case rel => exact ⟨i + 1, by rw [HFS.out, HT.out, Bool.true_or], by go_num, HLT.out⟩
          case measure => have := HLT.out; simp [intOf]; omega
      · obtain rfl : i = l.length := by omega
        have hfl := flag_all (by rw [HPM.out]; exact HFL.out)
        go_wp2_with fail
        with_reducible refine (Alive_f w3).mono ?_
        rintro e w4 ⟨rfl, hb4⟩
        have HB4 := Lib.hid (later HB3.out hb4)
        clear hb4
        go_wp2
        go_ret
        exact ⟨rfl, HB4.out⟩
  · obtain ⟨d, rfl⟩ : ∃ d : Nat, n = -(d : Int) := ⟨(-n).toNat, by omega⟩
    have e0 : (-(d : Int)).toNat = 0 := by omega
    have e1 : (- -(d : Int)).toNat = d := by omega
    rw [e0, e1] at hbad
    have HBAD := Lib.hid hbad
    have hw1 : IntKind.u64.wrap (wrap64 (d : Int)) = (d : Int) := by rw [wrap_u64]; unfold wrap64; omega
    have hw2 : IntKind.u64.wrap (d : Int) = (d : Int) := by rw [wrap_u64]; omega
    have hdec : decide (va < va + -(d : Int)) = false := decide_eq_false (by omega)
    clear hbad e0 e1
    go_wp2
    clear hw1 hw2 hdec
    clear r1 r2
    go_loop [13, 16] (fun v x => ∃ i : Nat, v = .bool (flag l k i) ∧ x = .int .i64 (i : Int) ∧ i ≤ l.length) (fun _ x => l.length - (intOf x).toNat)
    case atStart => exact ⟨0, rfl, rfl, Nat.zero_le _⟩
    case round =>
      obtain ⟨i, rfl, rfl, hi⟩ := hrel
      by_cases hlt : i < l.length
      · have HLT := Lib.hid hlt
        have HFS := Lib.hid (flag_succ l k i hlt)
        obtain ⟨bb, oo, rfl, hca, -⟩ := HA3.out i hlt
        have HEQ := Lib.hid (may_fOf HM.out i hlt)
        obtain ⟨c0, c1, c2⟩ := hca
        generalize l[i] = c at *
        cases hfl : flag l k i
        · by_cases hck : c.by_ = k
          · have t0 : (c.by_ == k) = true := by simpa using hck
            have hpm := HEQ.out
            rw [hck, HPM.out] at hpm
            injection hpm with hp1 hp2
            rw [← hp1] at c1
            rw [← hp2] at c2
            clear hp1 hp2 hck
            have HT := Lib.hid t0
            have hbad := HBAD.out
            by_cases a1 : 9223372036854775808 < P
            · clear hbad
              go_wp2
              go_round
              case rel => exact ⟨i + 1, by rw [HFS.out, HT.out, Bool.or_true], by go_num, HLT.out⟩
              case measure => have := HLT.out; simp [intOf]; omega
            · by_cases a3 : 9223372036854775808 < M
              · clear hbad
                go_wp2
                go_round
                case rel => exact ⟨i + 1, by rw [HFS.out, HT.out, Bool.or_true], by go_num, HLT.out⟩
                case measure => have := HLT.out; simp [intOf]; omega
              · by_cases a2 : 9223372036854775808 < P + 0
                · first
                  | (exfalso; omega)
                  | (have a2' : 9223372036854775808 - (P : Int) < ((0 : Nat) : Int) := by omega
                     clear hbad a2
                     go_wp2
                     go_round
                     case rel => exact ⟨i + 1, by rw [HFS.out, HT.out, Bool.or_true], by go_num, HLT.out⟩
                     case measure => have := HLT.out; simp [intOf]; omega)
                · first
                  | (exfalso; omega)
                  | (have a2' : ((0 : Nat) : Int) ≤ 9223372036854775808 - (P : Int) := by omega
                     have a4 : 9223372036854775808 - (M : Int) < ((d : Nat) : Int) := by omega
                     clear hbad a2
                     go_wp2
                     go_round
                     case rel => exact ⟨i + 1, by rw [HFS.out, HT.out, Bool.or_true], by go_num, HLT.out⟩
                     case measure => have := HLT.out; simp [intOf]; omega)
          · have t0 : (c.by_ == k) = false := by simpa using hck
            have HT := Lib.hid (And.intro hfl t0)
            clear hck
            go_wp2
            go_round
            case rel => exact ⟨i + 1, by rw [HFS.out, HT.out.1, HT.out.2]; rfl, by go_num, HLT.out⟩
            case measure => have := HLT.out; simp [intOf]; omega
        · have HT := Lib.hid hfl
          go_wp2
          go_round
          case rel => exact ⟨i + 1, by rw [HFS.out, HT.out, Bool.true_or], by go_num, HLT.out⟩
          case measure => have := HLT.out; simp [intOf]; omega
      · obtain rfl : i = l.length := by omega
        have hfl := flag_all (by rw [HPM.out]; exact HFL.out)
        go_wp2_with fail
        with_reducible refine (Alive_f w3).mono ?_
        rintro e w4 ⟨rfl, hb4⟩
        have HB4 := Lib.hid (later HB3.out hb4)
        clear hb4
        go_wp2
        go_ret
        exact ⟨rfl, HB4.out⟩
end Go.Proofs.Ytloackmpmhgkeaa.Cnt
