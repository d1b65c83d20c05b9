/-
  The document's counters (layer 12) on plain data. No program in sight.
-/
import Derived.Test.YtloackmpmhgkeaaCntOwn
open Go Go.RowKit
namespace Go.Proofs.Ytloackmpmhgkeaa.Cnt
open Base Mp

def pg (c : CntD) : Bool → List CntD → List CntD
  | true, [] => []
  | false, [] => [c]
  | d, x :: r => if x.by_ = c.by_ then pg c d r else if !d && decide (c.by_ < x.by_) then c :: x :: pg c true r else x :: pg c d r
def zeroC (c : CntD) : Bool := decide (c.plus = 0 ∧ c.minus = 0)
def putR (l : List CntD) (c : CntD) : List CntD := pg c (zeroC c) l
theorem mem_pgT (c x : CntD) : ∀ l, x ∈ pg c true l ↔ x ∈ l ∧ x.by_ ≠ c.by_
  | [] => by simp [pg]
  | y :: r => by
    unfold pg
    by_cases h : y.by_ = c.by_
    · rw [if_pos h, mem_pgT c x r, List.mem_cons]
      constructor
      · rintro ⟨h1, h2⟩; exact ⟨.inr h1, h2⟩
      · rintro ⟨h1 | h1, h2⟩
        · exact absurd (h1 ▸ h) h2
        · exact ⟨h1, h2⟩
    · rw [if_neg h]
      simp only [Bool.not_true, Bool.false_and, Bool.false_eq_true, if_false, List.mem_cons, mem_pgT c x r]
      constructor
      · rintro (h1 | ⟨h1, h2⟩)
        · exact ⟨.inl h1, h1 ▸ h⟩
        · exact ⟨.inr h1, h2⟩
      · rintro ⟨h1 | h1, h2⟩
        · exact .inl h1
        · exact .inr ⟨h1, h2⟩
theorem mem_pgF (c x : CntD) : ∀ l, x ∈ pg c false l ↔ x = c ∨ (x ∈ l ∧ x.by_ ≠ c.by_)
  | [] => by simp [pg]
  | y :: r => by
    unfold pg
    by_cases h : y.by_ = c.by_
    · rw [if_pos h, mem_pgF c x r, List.mem_cons]
      constructor
      · rintro (h1 | ⟨h1, h2⟩)
        · exact .inl h1
        · exact .inr ⟨.inr h1, h2⟩
      · rintro (h1 | ⟨h1 | h1, h2⟩)
        · exact .inl h1
        · exact absurd (h1 ▸ h) h2
        · exact .inr ⟨h1, h2⟩
    · rw [if_neg h]
      by_cases h2 : c.by_ < y.by_
      · simp only [Bool.not_false, Bool.true_and, decide_eq_true h2, if_true, List.mem_cons, mem_pgT c x r]
        constructor
        · rintro (h3 | h3 | ⟨h3, h4⟩)
          · exact .inl h3
          · exact .inr ⟨.inl h3, h3 ▸ h⟩
          · exact .inr ⟨.inr h3, h4⟩
        · rintro (h3 | ⟨h3 | h3, h4⟩)
          · exact .inl h3
          · exact .inr (.inl h3)
          · exact .inr (.inr ⟨h3, h4⟩)
      · simp only [Bool.not_false, Bool.true_and, decide_eq_false h2, Bool.false_eq_true, if_false, List.mem_cons, mem_pgF c x r]
        constructor
        · rintro (h3 | h3 | ⟨h3, h4⟩)
          · exact .inr ⟨.inl h3, h3 ▸ h⟩
          · exact .inl h3
          · exact .inr ⟨.inr h3, h4⟩
        · rintro (h3 | ⟨h3 | h3, h4⟩)
          · exact .inr (.inl h3)
          · exact .inl h3
          · exact .inr (.inr ⟨h3, h4⟩)
def Rising (l : List CntD) : Prop := l.Pairwise fun a b => a.by_ < b.by_
theorem pgT_rising (c : CntD) : ∀ l, Rising l → Rising (pg c true l)
  | [], _ => List.Pairwise.nil
  | y :: r, h => by
    obtain ⟨h1, h2⟩ := List.pairwise_cons.1 h
    have ih := pgT_rising c r h2
    unfold pg
    by_cases e : y.by_ = c.by_
    · rw [if_pos e]; exact ih
    · rw [if_neg e]
      simp only [Bool.not_true, Bool.false_and, Bool.false_eq_true, if_false]
      exact List.pairwise_cons.2 ⟨fun x hx => h1 x ((mem_pgT c x r).1 hx).1, ih⟩
theorem pgF_rising (c : CntD) : ∀ l, Rising l → Rising (pg c false l)
  | [], _ => List.pairwise_singleton _ _
  | y :: r, h => by
    obtain ⟨h1, h2⟩ := List.pairwise_cons.1 h
    have ih := pgF_rising c r h2
    have ihT := pgT_rising c r h2
    unfold pg
    by_cases e : y.by_ = c.by_
    · rw [if_pos e]; exact ih
    · rw [if_neg e]
      by_cases h3 : c.by_ < y.by_
      · simp only [Bool.not_false, Bool.true_and, decide_eq_true h3, if_true]
        refine List.pairwise_cons.2 ⟨fun x hx => ?_, List.pairwise_cons.2 ⟨fun x hx => h1 x ((mem_pgT c x r).1 hx).1, ihT⟩⟩
        rcases List.mem_cons.1 hx with rfl | hx
        · exact h3
        · exact List.lt_trans h3 (h1 x ((mem_pgT c x r).1 hx).1)
      · simp only [Bool.not_false, Bool.true_and, decide_eq_false h3, Bool.false_eq_true, if_false]
        refine List.pairwise_cons.2 ⟨fun x hx => ?_, ih⟩
        rcases (mem_pgF c x r).1 hx with rfl | ⟨hx, _⟩
        · rcases Classical.em (y.by_ < x.by_) with h4 | h4
          · exact h4
          · exact absurd (List.le_antisymm (List.not_lt.1 h3) (List.not_lt.1 h4)) e
        · exact h1 x hx
theorem rising_nodup {l : List CntD} (h : Rising l) : (l.map (·.by_)).Nodup := by
  unfold List.Nodup
  rw [List.pairwise_map]
  exact h.imp fun h e => by rw [e] at h; exact List.lt_irrefl _ h
theorem may_rising {l : List CntD} (h : may l = true) : Rising l := by
  have := ((may_iff l).1 h).2
  rw [List.pairwise_map] at this
  exact this
theorem fOf_in {l : List CntD} (h : Rising l) {c : CntD} (hc : c ∈ l) : fOf l c.by_ = (c.plus, c.minus) := by
  obtain ⟨a, b⟩ := mx_one l (rising_nodup h) c hc
  simp only [fOf, a, b]
def setF (f : Fn) (k : Key) (v : Nat × Nat) : Fn := fun j => if j = k then v else f j
theorem putR_rising {l : List CntD} (c : CntD) (h : Rising l) : Rising (putR l c) := by
  unfold putR
  cases zeroC c
  · exact pgF_rising c l h
  · exact pgT_rising c l h
theorem putR_may {l : List CntD} (c : CntD) (h : may l = true) : may (putR l c) = true := by
  have h0 := ((may_iff l).1 h).1
  have hr := putR_rising c (may_rising h)
  refine (may_iff _).2 ⟨fun x hx => ?_, by rw [List.pairwise_map]; exact hr⟩
  unfold putR at hx
  cases hz : zeroC c
  · rw [hz] at hx
    rcases (mem_pgF c x l).1 hx with rfl | ⟨hx, _⟩
    · simpa [zeroC] using hz
    · exact h0 x hx
  · rw [hz] at hx
    exact h0 x ((mem_pgT c x l).1 hx).1
theorem putR_f {l : List CntD} (c : CntD) (h : may l = true) : fOf (putR l c) = setF (fOf l) c.by_ (c.plus, c.minus) := by
  have hl := may_rising h
  have hr := putR_rising c hl
  funext k
  unfold setF
  by_cases hk : k = c.by_
  · subst hk
    rw [if_pos rfl]
    cases hz : zeroC c
    · exact fOf_in hr (by unfold putR; rw [hz]; exact (mem_pgF c c l).2 (.inl rfl))
    · rw [fOf_none _ _ fun x hx e => by
        unfold putR at hx
        rw [hz] at hx
        exact ((mem_pgT c x l).1 hx).2 e]
      have : c.plus = 0 ∧ c.minus = 0 := by simpa [zeroC] using hz
      rw [this.1, this.2]
  · rw [if_neg hk]
    rcases Classical.em (∃ x ∈ l, x.by_ = k) with ⟨x, hx, rfl⟩ | hno
    · rw [fOf_in hl hx]
      refine fOf_in hr ?_
      unfold putR
      cases zeroC c
      · exact (mem_pgF c x l).2 (.inr ⟨hx, hk⟩)
      · exact (mem_pgT c x l).2 ⟨hx, hk⟩
    · rw [fOf_none l k fun x hx e => hno ⟨x, hx, e⟩]
      refine fOf_none _ k fun x hx e => ?_
      unfold putR at hx
      cases hz : zeroC c
      · rw [hz] at hx
        rcases (mem_pgF c x l).1 hx with rfl | ⟨hx, _⟩
        · exact hk e.symm
        · exact hno ⟨x, hx, e⟩
      · rw [hz] at hx
        exact hno ⟨x, ((mem_pgT c x l).1 hx).1, e⟩
theorem pgT_len (c : CntD) : ∀ l : List CntD, (pg c true l).length ≤ l.length
  | [] => Nat.le_refl _
  | x :: r => by
    have h1 := pgT_len c r
    unfold pg
    split
    · rw [List.length_cons]; omega
    · simp only [Bool.not_true, Bool.false_and, Bool.false_eq_true, if_false, List.length_cons]; omega
theorem pgF_len (c : CntD) : ∀ l : List CntD, (pg c false l).length ≤ l.length + 1
  | [] => Nat.le_refl _
  | x :: r => by
    have h1 := pgF_len c r
    have h2 := pgT_len c r
    unfold pg
    split
    · rw [List.length_cons]; omega
    · split
      · simp only [List.length_cons]; omega
      · simp only [List.length_cons]; omega
theorem putR_len (l : List CntD) (c : CntD) : (putR l c).length ≤ l.length + 1 := by
  unfold putR
  cases zeroC c
  · exact pgF_len c l
  · exact Nat.le_succ_of_le (pgT_len c l)
/-! ### Clean -/
def partF (l : List CntD) (i : Nat) : Fn := fun k => if k ∈ (l.take i).map (·.by_) then fOf l k else (0, 0)
theorem partF_zero (l : List CntD) : partF l 0 = fOf [] := by
  funext k
  unfold partF
  simp [fOf, mxP, mxM]
theorem partF_step {l : List CntD} {i : Nat} (h : i < l.length) : setF (partF l i) (l[i]).by_ (fOf l (l[i]).by_) = partF l (i + 1) := by
  funext k
  unfold setF partF
  rw [List.take_succ_eq_append_getElem h, List.map_append]
  by_cases hk : k = (l[i]).by_
  · subst hk; simp
  · simp [hk]
theorem partF_all (l : List CntD) : partF l l.length = fOf l := by
  funext k
  unfold partF
  rw [List.take_length]
  split
  · rfl
  · rename_i h
    rcases Classical.em (fOf l k = (0, 0)) with h1 | h1
    · exact h1.symm
    · exact absurd (fOf_mem l k h1) h
/-! ### Value -/
def sumC (l : List CntD) : Int := (l.map fun c => (c.plus : Int) - c.minus).sum
theorem sumC_val {l : List CntD} (h : may l = true) : sumC l = vSum (l.map (·.by_)) (fOf l) := by
  unfold sumC vSum
  rw [List.map_map]
  congr 1
  refine List.map_congr_left fun c hc => ?_
  show _ = term (fOf l) c.by_
  unfold term
  rw [fOf_in (may_rising h) hc]
theorem sumC_valE {l m : List CntD} (hm : may m = true) (hf : fOf m = fOf l) (ho : Oks l) : wrap64 (sumC m) = valE l := by
  rw [sumC_val hm, hf]
  unfold valE
  rw [sum_of rfl ho.str (rising_nodup (may_rising hm)) fun k hk => by rw [← hf] at hk; exact fOf_mem m k hk]
end Go.Proofs.Ytloackmpmhgkeaa.Cnt
