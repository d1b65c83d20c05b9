/-
  Counters (layer 12): the walk of CounterOwn, in cases. No condition.
-/
import Derived.Test.YtloackmpmhgkeaaCntFolds
open Go Go.RowKit Go.Maps
namespace Go.Proofs.Ytloackmpmhgkeaa.Cnt
open Base Mp

theorem addF_supp {f : Fn} {x k : Key} {u d : Nat} (h : addF f x u d k ≠ (0, 0)) : f k ≠ (0, 0) ∨ k = x := by
  by_cases hk : k = x
  · exact .inr hk
  · refine .inl fun e => h ?_
    unfold addF
    rw [if_neg hk, e]
theorem add_valE {l l' : List CntD} {k : Key} {u d : Nat} (hl : Oks l) (hl' : Oks l') (h : fOf l' = addF (fOf l) k u d) (h1 : (fOf l k).1 + u < 2 ^ 64) (h2 : (fOf l k).2 + d < 2 ^ 64)
    (hr : -9223372036854775808 ≤ valE l + u - d ∧ valE l + u - d ≤ 9223372036854775807) : valE l' = valE l + u - d := by
  obtain ⟨ks, hn, hc⟩ := nodup_cover (k :: l.map (·.by_))
  have hx : k ∈ ks := (hc _).1 (by simp)
  have hs : ∀ k, fOf l k ≠ (0, 0) → k ∈ ks := fun k hk => (hc _).1 (List.mem_cons_of_mem _ (fOf_mem l k hk))
  unfold valE at hr ⊢
  rw [sum_of h hl'.str hn (fun j hk => (addF_supp hk).elim (hs j) (fun e => e ▸ hx)), add_val hn hx h1 h2]
  rw [sum_of rfl hl.str hn hs] at hr ⊢
  unfold wrap64 at hr ⊢
  omega
theorem may_fOf {l : List CntD} (h : may l = true) (i : Nat) (hi : i < l.length) : fOf l (l[i]).by_ = ((l[i]).plus, (l[i]).minus) := by
  have hnd : (l.map (·.by_)).Nodup := ((may_iff l).1 h).2.imp fun h e => by rw [e] at h; exact List.lt_irrefl _ h
  obtain ⟨a, b⟩ := mx_one l hnd l[i] (List.getElem_mem hi)
  simp only [fOf, a, b]
set_option maxRecDepth 100000 in
theorem Own_long (w : World) (p : Option Addr) (cap : Nat) (l : List CntD) (k o : Key) (n : Int) (h : CntsArg w p l) (hl : l.length ≤ maxLen) (hbad : 60 < (l.length : Int) ∨ may l = false) :
    Calls Try.prog 6 #[.slice p l.length cap, .string (B k), .string (B o), .int .i64 n] w fun e w' => e = .returned (.bool true) ∧ Below w.heap.size w w' := by
  have HA := Lib.hid h
  have HL := Lib.hid hl
  clear h hl
  by_cases la : 60 < (l.length : Int)
  · clear hbad
    go_enter Try.func6, Try.ntmps6
    go_wp2_with (first
      | (go_at_call 7; with_reducible refine (Long_f _ _ _ _).mono ?_; rintro e w' ⟨rfl, rfl⟩)
      | (go_at_call 8; with_reducible refine (Alive_f _).mono ?_; rintro e w' ⟨rfl, hb⟩))
    go_ret
    exact ⟨rfl, by assumption⟩
  · have hm : may l = false := hbad.resolve_left la
    have H1 := Lib.hid (May_f w p cap l HA.out (by omega))
    rw [hm] at H1
    clear hbad hm
    go_enter Try.func6, Try.ntmps6
    go_wp2_with (go_at_call 7; with_reducible refine (Long_f _ _ _ _).mono ?_; rintro e w' ⟨rfl, rfl⟩)
    with_reducible refine H1.out.mono ?_
    rintro e w1 ⟨rfl, hb1⟩
    have HB1 := Lib.hid hb1
    clear hb1
    go_wp2_with fail
    with_reducible refine (Alive_f w1).mono ?_
    rintro e w2 ⟨rfl, hb2⟩
    have HB2 := Lib.hid (later HB1.out hb2)
    clear hb2
    go_wp2
    go_ret
    exact ⟨rfl, HB2.out⟩
set_option maxRecDepth 100000 in
set_option maxHeartbeats 4000000 in
theorem Own_over (w : World) (p : Option Addr) (cap : Nat) (l : List CntD) (k o : Key) (n : Int) (h : CntsArg w p l) (la : ¬ 60 < (l.length : Int)) (hm : may l = true) (n1 : -9223372036854775808 ≤ n) (n2 : n ≤ 9223372036854775807)
    (hbad : ¬ (-9223372036854775808 ≤ valE l + n ∧ valE l + n ≤ 9223372036854775807)) :
    Calls Try.prog 6 #[.slice p l.length cap, .string (B k), .string (B o), .int .i64 n] w fun e w' => e = .returned (.bool true) ∧ Below w.heap.size w w' := by
  have HA := Lib.hid h
  have H1 := Lib.hid (May_f w p cap l HA.out (by omega))
  rw [hm] at H1
  have HV := valE_in l
  have HBAD := Lib.hid hbad
  clear h hm hbad
  go_enter Try.func6, Try.ntmps6
  go_wp2_with (go_at_call 7; with_reducible refine (Long_f _ _ _ _).mono ?_; rintro e w' ⟨rfl, rfl⟩)
  with_reducible refine H1.out.mono ?_
  rintro e w1 ⟨rfl, hb1⟩
  have HB1 := Lib.hid hb1
  have HA1 := Lib.hid (HA.out.below hb1)
  clear hb1 H1
  go_wp2_with fail
  with_reducible refine (Value_f w1 p cap l HA1.out (by omega)).mono ?_
  rintro e w2 ⟨rfl, hb2⟩
  have HB2 := Lib.hid (later HB1.out hb2)
  have HA2 := Lib.hid (HA1.out.below hb2)
  clear hb2 HB1 HA1
  have H3 := Lib.hid (Add_over w2 p cap l k n HA2.out (by omega) n1 n2 HBAD.out)
  go_wp2_with fail
  with_reducible refine H3.out.mono ?_
  rintro e w3 ⟨rfl, hb3⟩
  have HB3 := Lib.hid (later HB2.out hb3)
  clear hb3 HB2 HA2 H3
  have hbad := HBAD.out
  clear HBAD
  generalize valE l = va at *
  obtain ⟨v1, v2⟩ := HV
  have hle : (l.length : Int) ≤ 60 := by omega
  have hcase : (0 < n ∧ wrap64 (va + n) < va) ∨ (n < 0 ∧ va < wrap64 (va + n)) := by unfold wrap64; omega
  clear hbad
  rcases hcase with ⟨hp, hs⟩ | ⟨hp, hs⟩
  all_goals
    go_wp2
    clear hs
    go_loop [13, 16] (fun v u => ∃ i : Nat, v = .bool true ∧ u = .int .i64 (i : Int) ∧ i ≤ l.length) (fun _ u => l.length - (intOf u).toNat)
    case atStart => exact ⟨0, rfl, rfl, Nat.zero_le _⟩
    case round =>
      obtain ⟨i, rfl, rfl, hi⟩ := hrel
      by_cases hlt : i < l.length
      · have HLT := Lib.hid hlt
        go_wp2
        go_round
        case rel => exact ⟨i + 1, rfl, by go_num, HLT.out⟩
        case measure => have := HLT.out; simp [intOf]; omega
      · go_wp2_with fail
        with_reducible refine (Alive_f w3).mono ?_
        rintro e w4 ⟨rfl, hb4⟩
        have HB4 := Lib.hid (later HB3.out hb4)
        clear hb4
        go_wp2
        go_ret
        exact ⟨rfl, HB4.out⟩
end Go.Proofs.Ytloackmpmhgkeaa.Cnt
