/-
  Swim (layer 22): for SwimGone: two rows that grow side by side, and the names but one. No condition but that rows are no longer than 2^40.
-/
import Derived.Test.YtekjmkjghlbkbaaSwTickAll
import Derived.Maps.OwnRows
open Go Go.RowKit Go.Sort
namespace Go.Proofs.Ytekjmkjghlbkbaa.Sw
open Base

/-- Two rows that lie in two blocks. -/
def Apart (v v2 : Value) : Prop := ∀ k, v.ownBlock = some k → v2.ownBlock ≠ some k
theorem append_two (W : World) (base : Nat) (hb : base ≤ W.heap.size) (v v2 : Value) (A A2 : List Key) (ho : W.ownsRow base 9 1 v A.length (A.map strC)) (ho2 : W.ownsRow base 9 1 v2 A2.length (A2.map strC)) (ha : Apart v v2) (x : Key) (hm : A.length + 1 ≤ 2199023255552) :
    ∃ g cap w', (Builtin.append_ #[32, 32] 32 #[v, .slice (some ⟨W.heap.size, 0, none⟩) 1 1]).run Try.prog (W.alloc (.cells #[.string (B x)] 9)) = .ok (.slice (some ⟨g, 0, none⟩) (A.length + 1) cap) w' ∧
      w'.ownsRow base 9 1 (.slice (some ⟨g, 0, none⟩) (A.length + 1) cap) (A ++ [x]).length ((A ++ [x]).map strC) ∧ w'.ownsRow base 9 1 v2 A2.length (A2.map strC) ∧ Apart (.slice (some ⟨g, 0, none⟩) (A.length + 1) cap) v2 ∧ Below base W w' := by
  obtain ⟨i0, hi, hz0, hz1, hz2⟩ := info_parts infoStr
  have hz := alloc_more W (.cells #[.string (B x)] 9)
  have hc := cells_made W #[.string (B x)] 9
  have hb1 : Below base W (W.alloc (.cells #[.string (B x)] 9)) := (Below.refl _ _).alloc hb _
  obtain ⟨g, cap, w', h1, h2, h3, h4, h5⟩ := run_append_lies (P := Try.prog) (W.alloc (.cells #[.string (B x)] 9)) 32 32 base 9 i0 _ 1 16 Try.underlying32 hi hz0 hz1 hz2 rfl (by decide)
    v A.length _ (ho.alloc _) ⟨W.heap.size, 0, none⟩ 1 1 [.string (B x)] rfl (fun j u hj => by
      have hj3 : j < 1 := by
        rcases Nat.lt_or_ge j 1 with h | h
        · exact h
        · rw [List.getElem?_eq_none (by simpa using h)] at hj; cases hj
      obtain rfl : j = 0 := by omega
      rw [show (⟨W.heap.size, 0, none⟩ : Addr).add 0 = ⟨W.heap.size, 0, none⟩ by simp [Addr.add], (hc 0 hj3).1]
      exact hj) (by simp [Value.oneCell']) (by decide) (by unfold maxLen; omega) (by omega) (by omega) _ rfl
  have hl2 : ∀ k, v2.ownBlock = some k → k < W.heap.size := fun k hk => (ho2.lt k hk).2
  refine ⟨g, cap, w', h1, ?_, ?_, ?_, hb1.grown h3 (by omega) (fun q hq => (ho.lt q hq).1)⟩
  · rw [List.map_append, List.length_append]; exact h2
  · refine (ho2.alloc _).kept h3 ?_
    cases hv : v2.ownBlock with
    | none => exact .inl rfl
    | some k => exact .inr fun e => ha k e.symm hv
  · intro k hk hk2
    injection hk with hk
    subst hk
    rcases h4 with h4 | h4
    · exact ha _ h4 hk2
    · have h9 : g < W.heap.size := hl2 _ hk2
      omega
theorem Apart.symm {v v2 : Value} (h : Apart v v2) : Apart v2 v := fun k h1 h2 => h k h2 h1
/-- The names but the q-th. -/
def restG (n q : Nat) : List Key := (letters n).filter fun m => decide (m ≠ letter q)
theorem restG_succ (n q : Nat) : restG (n + 1) q = restG n q ++ (if letter n = letter q then [] else [letter n]) := by
  unfold restG
  rw [letters_succ, List.filter_append]
  congr 1
  by_cases h : letter n = letter q <;> simp [h]
theorem restG_len (n q : Nat) : (restG n q).length ≤ n := Nat.le_trans (List.length_filter_le _ _) (by rw [letters_len]; exact Nat.le_refl _)
theorem restG_rise (n q : Nat) (h : n ≤ 12) : (restG n q).Pairwise (· < ·) := (letters_rise n h).filter _
theorem restG_full (n q : Nat) : [] ∉ restG n q := fun h => letters_full n (List.mem_filter.1 h).1
theorem restG_not (n q : Nat) : letter q ∉ restG n q := fun h => by simpa using (List.mem_filter.1 h).2
theorem letter_ne {i j : Nat} (hi : i < 12) (hj : j < 12) (h : i ≠ j) : letter i ≠ letter j := fun e => by
  rcases Nat.lt_or_gt_of_ne h with h | h
  · exact absurd (e ▸ letter_lt hj h) (List.lt_irrefl _)
  · exact absurd (e ▸ letter_lt hi h) (List.lt_irrefl _)
theorem restG_pos (n q : Nat) (h : 2 ≤ n) (h2 : n ≤ 12) (hq : q < n) : 0 < (restG n q).length := by
  have : ∃ i, i < n ∧ i ≠ q := by
    rcases Nat.eq_zero_or_pos q with rfl | h
    · exact ⟨1, by omega, by omega⟩
    · exact ⟨0, by omega, by omega⟩
  obtain ⟨i, hi, hiq⟩ := this
  refine List.length_pos_of_mem (a := letter i) (List.mem_filter.2 ⟨List.mem_map.2 ⟨i, List.mem_range.2 hi, rfl⟩, decide_eq_true (letter_ne (by omega) (by omega) hiq)⟩)
/-- How many of the asks are a question's first. -/
def firsts (A : List AskD) : Nat := (A.filter fun a => decide (a.for_ = [])).length
/-- What a tick asks and loses: of members alone; and one question at each multiple of the period. -/
theorem rel_asks {T P x k : Nat} {s : SwD} {ks : List Key} {d : Nat} {s' : SwD} {A : List AskD} {L : List Key} (h : TickRel T P x k s ks d s' A L) (h0 : 0 < ks.length) (hf : [] ∉ ks) (ho : 0 ≤ s.others ∧ s.others ≤ 3) :
    (∀ t ∈ L, t ∈ ks) ∧ (∀ a ∈ A, a.to ∈ ks ∧ (a.for_ = [] ∨ a.for_ ∈ ks)) ∧ firsts A = (if x = k * P then 1 else 0) ∧ L.length ≤ 1 ∧ A.length ≤ 4 := by
  cases h with
  | still h ho => exact ⟨fun t ht => absurd ht (by simp), fun a ha => absurd ha (by simp), by rw [if_neg (by omega)]; rfl, by simp, by simp⟩
  | wait h ho hm => exact ⟨fun t ht => absurd ht (by simp), fun a ha => absurd ha (by simp), by rw [if_neg (by omega)]; rfl, by simp, by simp⟩
  | round h ho2 hm =>
    have hall : ∀ a ∈ roundL (askd (nowS s x)) ks d, a.to ∈ ks ∧ a.for_ = s.target := fun a ha => ⟨(round_mem _ _ _ _ ha).1, (round_mem _ _ _ _ ha).2.1⟩
    refine ⟨fun t ht => absurd ht (by simp), fun a ha => ⟨(hall a ha).1, .inr ((hall a ha).2 ▸ hm)⟩, ?_, by simp, ?_⟩
    · rw [if_neg (by omega)]
      unfold firsts
      rw [List.filter_eq_nil_iff.2]
      · rfl
      · intro a ha
        rw [(hall a ha).2]
        have : s.target ≠ [] := fun e => hf (e ▸ hm)
        simpa using this
    · have := round_len (askd (nowS s x)) ks d
      have e : (askd (nowS s x)).others = s.others := rfl
      rw [e] at this
      omega
  | begin_ h ho => exact ⟨fun t ht => absurd ht (by simp), fun a ha => by rw [List.mem_singleton.1 ha]; exact ⟨nextK_mem s ks h0, .inl rfl⟩, by rw [if_pos h]; rfl, by simp, by simp⟩
  | lost h ho hm => exact ⟨fun t ht => by rw [List.mem_singleton.1 ht]; exact hm, fun a ha => by rw [List.mem_singleton.1 ha]; exact ⟨nextK_mem s ks h0, .inl rfl⟩, by rw [if_pos h]; rfl, by simp, by simp⟩
end Go.Proofs.Ytekjmkjghlbkbaa.Sw
