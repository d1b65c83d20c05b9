/-
  The net (layer 30), plain: what pdqsort's rounds keep, at numbers. No condition.
-/
import Derived.Test.YtplfnjpoikhmbaaNtRow
open Go Go.RowKit Go.Sort
namespace Go.Proofs.Ytplfnjpoikhmbaa.Nt
open Base

theorem lt_no {x y : Int} : ltInt x y = false ↔ y ≤ x := by unfold ltInt; simp
theorem lt_yes {x y : Int} : ltInt x y = true ↔ x < y := by unfold ltInt; simp
theorem swo : SWO ltInt := ⟨fun x => lt_no.2 (Int.le_refl x), fun _ _ _ h1 h2 => lt_yes.2 (Int.lt_trans (lt_yes.1 h1) (lt_yes.1 h2)), fun _ _ _ h1 h2 => lt_no.2 (Int.le_trans (lt_no.1 h2) (lt_no.1 h1))⟩
/-- What holds between two rounds: the row r is one of d's numbers, nothing of the part is less than what stands ahead of it, and once the part is sorted the whole is. -/
structure Part (a b : Nat) (d : Array Int) (a1 b1 : Nat) (r : Array Int) : Prop where
  lo : a ≤ a1
  mid : a1 ≤ b1
  hi : b1 ≤ b
  top : b ≤ d.size
  perm : PermIn a b d r
  below : Sort.Below ltInt a1 b1 r
  fin : ∀ d', PermIn a1 b1 r d' → SortedIn ltInt a1 b1 d' → SortedIn ltInt a b d'
section
variable {a b a1 b1 : Nat} {d r r1 : Array Int}
theorem below_perm (h : Sort.Below ltInt a1 b1 r) (hp : PermIn a1 b1 r r1) (hb : b1 ≤ r.size) : Sort.Below ltInt a1 b1 r1 := by
  rcases h with h | h
  · exact .inl h
  · rcases Nat.eq_zero_or_pos a1 with h0 | h0
    · exact .inl h0
    · refine .inr fun i h1 h2 => ?_
      rw [hp.2.1 (a1 - 1) (.inl (by omega))]
      exact permIn_all r r1 a1 b1 (fun x => ltInt x r[a1 - 1]! = false) hb hp h i h1 h2
theorem Part.size (h : Part a b d a1 b1 r) : b1 ≤ r.size := by have := h.perm.1; have := h.top; have := h.hi; omega
theorem Part.turn (h : Part a b d a1 b1 r) (hp : PermIn a1 b1 r r1) : Part a b d a1 b1 r1 :=
  ⟨h.lo, h.mid, h.hi, h.top, permIn_trans _ _ _ _ _ h.perm (permIn_mono _ _ _ _ _ _ h.lo h.hi (by rw [h.perm.1]; exact h.top) hp), below_perm h.below hp h.size, fun d' hp' hs => h.fin d' (permIn_trans _ _ _ _ _ hp hp') hs⟩
theorem Part.done (h : Part a b d a1 b1 r) (hp : PermIn a1 b1 r r1) (hs : SortedIn ltInt a1 b1 r1) : PermIn a b d r1 ∧ SortedIn ltInt a b r1 :=
  ⟨(h.turn hp).perm, h.fin r1 hp hs⟩
theorem Part.start (hab : a ≤ b) (hb : b ≤ d.size) (hB : Sort.Below ltInt a b d) : Part a b d a b d := ⟨Nat.le_refl _, hab, Nat.le_refl _, hb, permIn_refl _ _ _, hB, fun _ _ h => h⟩
/-- Behind partitionEqual. -/
theorem Part.equal (h : Part a b d a1 b1 r) (h0 : 0 < a1) {p : Nat} (hp : a1 ≤ p) (hpb : p < b1) (hn : ltInt r[a1 - 1]! r[p]! = false) :
    a1 < (partitionEqual ltInt r a1 b1 p).1 ∧ Part a b d (partitionEqual ltInt r a1 b1 p).1 b1 (partitionEqual ltInt r a1 b1 p).2 := by
  have hge : ∀ i, a1 ≤ i → i < b1 → r[p]! ≤ r[i]! := fun i h1 h2 => by
    rcases h.below with hb | hb
    · omega
    · have e1 := lt_no.1 (hb i h1 h2)
      have e2 := lt_no.1 hn
      omega
  obtain ⟨h1, h2, h3, h4, h5⟩ := partitionEqual_holds ltInt swo r a1 b1 p hp hpb h.size (fun i hi hi2 => lt_no.2 (hge i hi hi2))
  generalize partitionEqual ltInt r a1 b1 p = E at *
  obtain ⟨m, q⟩ := E
  simp only at h1 h2 h3 h4 h5 ⊢
  have ht := h.turn h3
  have hge2 := permIn_all r q a1 b1 (fun x => r[p]! ≤ x) h.size h3 hge
  refine ⟨h1, ⟨by have := h.lo; omega, h2, h.hi, h.top, ht.perm, .inr fun i hi hi2 => lt_no.2 ?_, fun d' hp' hs => ?_⟩⟩
  · have e1 := lt_yes.1 (h5 i hi hi2)
    have e2 := lt_no.1 (h4 (m - 1) (by omega) (by omega))
    omega
  · refine ht.fin d' (permIn_mono _ _ _ _ _ _ (by omega) (Nat.le_refl _) ht.size hp') fun i j hi hij hj => lt_no.2 ?_
    have hgt := permIn_all q d' m b1 (fun x => r[p]! < x) ht.size hp' (fun i hi hi2 => lt_yes.1 (h5 i hi hi2))
    have hold : ∀ k, k < m → d'[k]! = q[k]! := fun k hk => hp'.2.1 k (.inl hk)
    by_cases hjm : j < m
    · rw [hold i (by omega), hold j hjm]
      have e1 := lt_no.1 (h4 i (by omega) (by omega))
      have e2 := hge2 j (by omega) hj
      omega
    · by_cases him : i < m
      · rw [hold i him]
        have e1 := lt_no.1 (h4 i (by omega) him)
        have e2 := hgt j (by omega) hj
        omega
      · exact lt_no.1 (hs i j (by omega) hij hj)
theorem sorted_join {m : Nat} {q : Array Int} (h1 : ∀ i, a1 ≤ i → i < m → q[i]! < q[m]!) (h2 : ∀ i, m < i → i < b1 → q[m]! ≤ q[i]!) (s1 : SortedIn ltInt a1 m q) (s2 : SortedIn ltInt (m + 1) b1 q) : SortedIn ltInt a1 b1 q := fun i j hi hij hj => by
  rw [lt_no]
  by_cases hjm : j < m
  · exact lt_no.1 (s1 i j hi hij hjm)
  · by_cases hjm2 : j = m
    · subst hjm2
      have := h1 i hi hij
      omega
    · by_cases him : i < m
      · have e1 := h1 i hi him
        have e2 := h2 j (by omega) hj
        omega
      · by_cases him2 : i = m
        · subst him2
          exact h2 j hij hj
        · exact lt_no.1 (s2 i j (by omega) hij hj)
/-- Behind partition. -/
structure Split (a b : Nat) (d : Array Int) (a1 b1 m : Nat) (q : Array Int) : Prop where
  part : Part a b d a1 b1 q
  lo : a1 ≤ m
  hi : m < b1
  left : ∀ i, a1 ≤ i → i < m → q[i]! < q[m]!
  right : ∀ i, m < i → i < b1 → q[m]! ≤ q[i]!
theorem Part.split (h : Part a b d a1 b1 r) {p : Nat} (hp : a1 ≤ p) (hpb : p < b1) : Split a b d a1 b1 (partition ltInt r a1 b1 p).1 (partition ltInt r a1 b1 p).2.2 := by
  obtain ⟨h1, h2, h3, h4, h5⟩ := partition_holds ltInt swo r a1 b1 p hp hpb h.size
  exact ⟨h.turn h3, h1, h2, fun i hi hi2 => lt_yes.1 (h4 i hi hi2), fun i hi hi2 => lt_no.1 (h5 i hi hi2)⟩
variable {m : Nat} {q q1 : Array Int}
theorem Split.belowL (h : Split a b d a1 b1 m q) : Sort.Below ltInt a1 m q := by
  rcases h.part.below with hb | hb
  · exact .inl hb
  · exact .inr fun i h1 h2 => hb i h1 (by have := h.hi; omega)
theorem Split.belowR (h : Split a b d a1 b1 m q) : Sort.Below ltInt (m + 1) b1 q := .inr fun i h1 h2 => lt_no.2 (h.right i (by omega) h2)
/-- The left side is sorted: on with the right one. -/
theorem Split.goR (h : Split a b d a1 b1 m q) (hp : PermIn a1 m q q1) (hs : SortedIn ltInt a1 m q1) : Part a b d (m + 1) b1 q1 := by
  have hsz := h.part.size
  have hm := h.hi
  have hl := h.lo
  have ht := h.part.turn (permIn_mono _ _ _ _ _ _ (Nat.le_refl _) (by omega) hsz hp)
  have hold : ∀ k, m ≤ k → q1[k]! = q[k]! := fun k hk => hp.2.1 k (.inr hk)
  have hleft := permIn_all q q1 a1 m (fun x => x < q[m]!) (by omega) hp h.left
  refine ⟨by have := h.part.lo; omega, by omega, h.part.hi, h.part.top, ht.perm, .inr fun i h1 h2 => lt_no.2 ?_, fun d' hp' hs' => ?_⟩
  · rw [show m + 1 - 1 = m by omega, hold m (Nat.le_refl _), hold i (by omega)]
    exact h.right i (by omega) h2
  · have hold' : ∀ k, k < m + 1 → d'[k]! = q1[k]! := fun k hk => hp'.2.1 k (.inl hk)
    refine ht.fin d' (permIn_mono _ _ _ _ _ _ (by omega) (Nat.le_refl _) ht.size hp') (sorted_join (m := m) (fun i h1 h2 => ?_) (fun i h1 h2 => ?_) (fun i j h1 h2 h3 => ?_) hs')
    · rw [hold' i (by omega), hold' m (by omega), hold m (Nat.le_refl _)]
      exact hleft i h1 h2
    · rw [hold' m (by omega), hold m (Nat.le_refl _)]
      exact permIn_all q1 d' (m + 1) b1 (fun x => q[m]! ≤ x) ht.size hp' (fun i h1 h2 => by rw [hold i (by omega)]; exact h.right i (by omega) h2) i (by omega) h2
    · rw [hold' i (by omega), hold' j (by omega)]
      exact hs i j h1 h2 h3
/-- The right side is sorted: on with the left one. -/
theorem Split.goL (h : Split a b d a1 b1 m q) (hp : PermIn (m + 1) b1 q q1) (hs : SortedIn ltInt (m + 1) b1 q1) : Part a b d a1 m q1 := by
  have hsz := h.part.size
  have hm := h.hi
  have hl := h.lo
  have ht := h.part.turn (permIn_mono _ _ _ _ _ _ (by omega) (Nat.le_refl _) hsz hp)
  have hold : ∀ k, k < m + 1 → q1[k]! = q[k]! := fun k hk => hp.2.1 k (.inl hk)
  have hright := permIn_all q q1 (m + 1) b1 (fun x => q[m]! ≤ x) hsz hp (fun i h1 h2 => h.right i (by omega) h2)
  refine ⟨h.part.lo, hl, by have := h.part.hi; omega, h.part.top, ht.perm, ?_, fun d' hp' hs' => ?_⟩
  · rcases ht.below with hb | hb
    · exact .inl hb
    · exact .inr fun i h1 h2 => hb i h1 (by omega)
  · have hold' : ∀ k, m ≤ k → d'[k]! = q1[k]! := fun k hk => hp'.2.1 k (.inr hk)
    refine ht.fin d' (permIn_mono _ _ _ _ _ _ (Nat.le_refl _) (by omega) ht.size hp') (sorted_join (m := m) (fun i h1 h2 => ?_) (fun i h1 h2 => ?_) hs' (fun i j h1 h2 h3 => ?_))
    · rw [hold' m (Nat.le_refl _), hold m (by omega)]
      exact permIn_all q1 d' a1 m (fun x => x < q[m]!) (by have := ht.size; omega) hp' (fun i h1 h2 => by rw [hold i (by omega)]; exact h.left i h1 h2) i h1 h2
    · rw [hold' m (Nat.le_refl _), hold m (by omega), hold' i (by omega)]
      exact hright i (by omega) h2
    · rw [hold' i (by omega), hold' j (by omega)]
      exact hs i j h1 h2 h3
end
end Go.Proofs.Ytplfnjpoikhmbaa.Nt
