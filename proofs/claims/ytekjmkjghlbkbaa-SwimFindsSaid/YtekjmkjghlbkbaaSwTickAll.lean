/-
  Swim (layer 22): Tick where questions begin at the multiples of the period: its seven walks, put together. Conditions: no more than 4096 names, in order, none empty; times to 4096.
-/
import Derived.Test.YtekjmkjghlbkbaaSwLaw
import Derived.Test.YtekjmkjghlbkbaaSwTickIdle
import Derived.Test.YtekjmkjghlbkbaaSwTickGoneIdle
import Derived.Test.YtekjmkjghlbkbaaSwTickGoneBegin
import Derived.Test.YtekjmkjghlbkbaaSwTickWait
open Go Go.RowKit Go.Sort
namespace Go.Proofs.Ytekjmkjghlbkbaa.Sw
open Base

/-- The numbers of a Swim ahead of the time x, k questions begun. -/
structure Num (P T O x k : Nat) (s : SwD) : Prop where
  period : s.period = (P : Int)
  wait : s.wait = (T : Int)
  others : s.others = (O : Int)
  now : s.now = ((x - 1 : Nat) : Int)
  seq : s.seq = k
  since : s.since = ((P * (k - 1) : Nat) : Int)
  first : k = 0 → s.open_ = false
/-- What Tick does at the time x. -/
inductive TickRel (T P x k : Nat) (s : SwD) (ks : List Key) (d : Nat) : SwD → List AskD → List Key → Prop
  | still (h : x < k * P) (ho : s.open_ = false ∨ s.target ∉ ks) : TickRel T P x k s ks d (shut (nowS s x)) [] []
  | wait (h : x < k * P) (ho : s.open_ = true) (hm : s.target ∈ ks) : TickRel T P x k s ks d (nowS s x) [] []
  | round (h : x < k * P) (ho : s.open_ = true) (hm : s.target ∈ ks) : TickRel T P x k s ks d (askd (nowS s x)) (roundL (askd (nowS s x)) ks d) []
  | begin_ (h : x = k * P) (ho : s.open_ = false ∨ s.target ∉ ks) : TickRel T P x k s ks d (begun (shut (nowS s x)) (nextK s ks)) [⟨nextK s ks, [], k + 1⟩] []
  | lost (h : x = k * P) (ho : s.open_ = true) (hm : s.target ∈ ks) : TickRel T P x k s ks d (begun (shut (nowS s x)) (nextK s ks)) [⟨nextK s ks, [], k + 1⟩] [s.target]
theorem Tick_all (W : World) (b g cp : Nat) (P T O x k : Nat) (s : SwD) (ks : List Key) (d : Nat) (hN : Num P T O x k s) (h : SwAt W b s) (hs : StrsArg W (some ⟨g, 0, none⟩) ks) (h0 : 0 < ks.length) (h1 : ks.length ≤ 4096) (hr : ks.Pairwise (· < ·)) (hf : [] ∉ ks) (hx : x ≤ k * P) (h2 : k * P < x + P) (hb : x ≤ 4096) (hP : 0 < P) (hPb : P ≤ 4096) (hd : d < 2 ^ 64) :
    Calls Try.prog 10 #[.pointer (some ⟨b, 0, none⟩), .int .i64 (x : Int), .slice (some ⟨g, 0, none⟩) ks.length cp, .int .u64 (d : Int)] W fun e w' => ∃ s' A L, TickPost W b s' A L e w' ∧ TickRel T P x k s ks d s' A L := by
  have hT := tidy_id ks hr hf
  have hkP : k ≤ k * P := Nat.le_mul_of_pos_right _ hP
  have hk2 : k = 0 ∨ P * (k - 1) + P = k * P := by
    rcases Nat.eq_zero_or_pos k with h | h
    · exact .inl h
    · obtain ⟨j, rfl⟩ : ∃ j, k = j + 1 := ⟨k - 1, by omega⟩
      exact .inr (by rw [Nat.add_sub_cancel, Nat.succ_mul, Nat.mul_comm P j])
  have hk3 : P * (k - 1) ≤ 4096 := by
    rcases hk2 with rfl | h
    · simp
    · omega
  obtain ⟨n1, n2, n3, n4, n5, n6, n7⟩ := hN
  have hb1 : ks.length ≤ 1099511627776 := by omega
  have hk : (tidyL ks).Pairwise (· < ·) := by rw [hT]; exact hr
  have hq : s.seq + 1 < 2 ^ 64 := by omega
  have hnow : 0 ≤ (x : Int) ∧ (x : Int) ≤ 2305843009213693952 := by omega
  have hsn : 0 ≤ s.now ∧ s.now ≤ 2305843009213693952 := by omega
  have hsi : 0 ≤ s.since ∧ s.since ≤ 2305843009213693952 := by omega
  have hmax : max s.now (x : Int) = (x : Int) := by omega
  have h0' : 0 < (tidyL ks).length := by rw [hT]; exact h0
  by_cases hxk : x = k * P
  · have hi : s.seq = 0 ∨ s.period ≤ max s.now (x : Int) - s.since := by
      rcases hk2 with h | h
      · exact .inl (n5.trans h)
      · exact .inr (by rw [hmax, n1, n6]; omega)
    cases ho : s.open_ with
    | false =>
      have t := Tick_begin W b s (some ⟨g, 0, none⟩) cp ks (x : Int) d h hs h0 hb1 hk hq hnow hsn hsi ho h0' hi
      rw [hT, n5] at t
      exact t.mono fun e w' ht => ⟨_, _, _, ht, .begin_ hxk (.inl ho)⟩
    | true =>
      by_cases hm : s.target ∈ ks
      · have hk0 : k ≠ 0 := fun e => by rw [n7 e] at ho; cases ho
        have t := Tick_lost W b s (some ⟨g, 0, none⟩) cp ks (x : Int) d h hs h0 hb1 hk hq hnow hsn hsi ho (by rw [hT]; exact hm) (by rw [hmax, n1, n6]; omega)
        rw [hT, n5] at t
        exact t.mono fun e w' ht => ⟨_, _, _, ht, .lost hxk ho hm⟩
      · have t := Tick_gonebegin W b s (some ⟨g, 0, none⟩) cp ks (x : Int) d h hs h0 hb1 hk hq hnow hsn hsi ho (by rw [hT]; exact hm) h0' hi
        rw [hT, n5] at t
        exact t.mono fun e w' ht => ⟨_, _, _, ht, .begin_ hxk (.inr hm)⟩
  · have hxl : x < k * P := by omega
    have hk0 : k ≠ 0 := by rintro rfl; omega
    have hp1 : max s.now (x : Int) - s.since < s.period := by rw [hmax, n1, n6]; omega
    have hi : (tidyL ks).length = 0 ∨ (s.seq ≠ 0 ∧ max s.now (x : Int) - s.since < s.period) := .inr ⟨by omega, hp1⟩
    cases ho : s.open_ with
    | false => exact (Tick_idle W b s (some ⟨g, 0, none⟩) cp ks (x : Int) d h hs h0 hb1 hk hq hnow hsn hsi ho hi).mono fun e w' ht => ⟨_, _, _, ht, .still hxl (.inl ho)⟩
    | true =>
      by_cases hm : s.target ∈ ks
      · by_cases hw : s.wait ≤ max s.now (x : Int) - s.since ∧ s.asked = false
        · have t := Tick_round W b s (some ⟨g, 0, none⟩) cp ks (x : Int) d h hs h0 hb1 hk hd hq hnow hsn hsi ho (by rw [hT]; exact hm) hp1 hw.1 hw.2
          rw [hT] at t
          exact t.mono fun e w' ht => ⟨_, _, _, ht, .round hxl ho hm⟩
        · refine (Tick_wait W b s (some ⟨g, 0, none⟩) cp ks (x : Int) d h hs h0 hb1 hk hq hnow hsn hsi ho (by rw [hT]; exact hm) hp1 ?_).mono fun e w' ht => ⟨_, _, _, ht, .wait hxl ho hm⟩
          by_cases h5 : max s.now (x : Int) - s.since < s.wait
          · exact .inl h5
          · refine .inr ?_
            cases ha : s.asked with
            | true => rfl
            | false => exact absurd ⟨by omega, ha⟩ hw
      · exact (Tick_goneidle W b s (some ⟨g, 0, none⟩) cp ks (x : Int) d h hs h0 hb1 hk hq hnow hsn hsi ho (by rw [hT]; exact hm) hi).mono fun e w' ht => ⟨_, _, _, ht, .still hxl (.inr hm)⟩
theorem Num.next {P T O x k : Nat} {s : SwD} {ks : List Key} {d : Nat} {s' : SwD} {A : List AskD} {L : List Key} (hN : Num P T O x k s) (h : TickRel T P x k s ks d s' A L) : Num P T O (x + 1) (if x = k * P then k + 1 else k) s' := by
  obtain ⟨n1, n2, n3, n4, n5, n6, n7⟩ := hN
  have hmax : max s.now (x : Int) = ((x + 1 - 1 : Nat) : Int) := by omega
  cases h with
  | still h ho => rw [if_neg (by omega)]; exact ⟨n1, n2, n3, hmax, n5, n6, fun _ => rfl⟩
  | wait h ho hm => rw [if_neg (by omega)]; exact ⟨n1, n2, n3, hmax, n5, n6, n7⟩
  | round h ho hm => rw [if_neg (by omega)]; exact ⟨n1, n2, n3, hmax, n5, n6, n7⟩
  | begin_ h ho =>
    rw [if_pos h]
    refine ⟨n1, n2, n3, hmax, by rw [← n5]; rfl, ?_, fun h => absurd h (by omega)⟩
    show max s.now (x : Int) = _
    rw [Nat.add_sub_cancel, Nat.mul_comm, ← h, hmax, Nat.add_sub_cancel]
  | lost h ho hm =>
    rw [if_pos h]
    refine ⟨n1, n2, n3, hmax, by rw [← n5]; rfl, ?_, fun h => absurd h (by omega)⟩
    show max s.now (x : Int) = _
    rw [Nat.add_sub_cancel, Nat.mul_comm, ← h, hmax, Nat.add_sub_cancel]
theorem nextK_mem (s : SwD) (ks : List Key) (h : 0 < ks.length) : nextK s ks ∈ ks := by
  have hh : ks.headD [] ∈ ks := by
    cases ks with
    | nil => exact absurd h (by simp)
    | cons x r => simp
  unfold nextK
  split
  · exact hh
  · cases hf : ks.find? fun m => decide (s.target < m) with
    | none => exact hh
    | some m => exact List.mem_of_find?_eq_some hf
theorem round_mem (s : SwD) (ks : List Key) (d : Nat) (a : AskD) (h : a ∈ roundL s ks d) : a.to ∈ ks ∧ a.for_ = s.target ∧ a.seq = s.seq := by
  unfold roundL at h
  obtain ⟨i, hi, rfl⟩ := List.mem_map.1 h
  have hi := List.mem_range.1 hi
  refine ⟨?_, rfl, rfl⟩
  have hl : (d % (restL s ks).length + i) % (restL s ks).length < (restL s ks).length := Nat.mod_lt _ (by omega)
  show (restL s ks).getD _ [] ∈ ks
  rw [List.getD_eq_getElem?_getD, List.getElem?_eq_getElem hl]
  exact (List.mem_filter.1 (List.getElem_mem hl)).1
theorem round_len (s : SwD) (ks : List Key) (d : Nat) : (roundL s ks d).length ≤ s.others.toNat := by
  unfold roundL
  rw [List.length_map, List.length_range]
  exact Nat.min_le_left _ _
end Go.Proofs.Ytekjmkjghlbkbaa.Sw
