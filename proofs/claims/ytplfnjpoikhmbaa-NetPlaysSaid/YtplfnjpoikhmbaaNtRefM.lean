/-
  The document's net (layer 30): where a message stands in a list that rises; its row and its struct in memory; what an append of messages does. No condition but the row's length.
-/
import Derived.Test.YtplfnjpoikhmbaaNtOnce
open Go Go.RowKit
namespace Go.Proofs.Ytplfnjpoikhmbaa.Nt
open Base Mp

/-! ### Plain -/
def atN (G : List GramD) (n : Nat) : Nat := G.findIdx fun g => g.id == n
def atI (G : List GramD) (n : Nat) : Int := if atN G n < G.length then (atN G n : Int) else -1
theorem atN_le (G : List GramD) (n : Nat) : atN G n ≤ G.length := List.findIdx_le_length
theorem atN_cons (y : GramD) (r : List GramD) (n : Nat) : atN (y :: r) n = if y.id = n then 0 else atN r n + 1 := by
  unfold atN
  rw [List.findIdx_cons]
  by_cases h : y.id = n
  · simp [h]
  · rw [show (y.id == n) = false by simp [h], if_neg h]
    rfl
theorem find_at_none : ∀ {G : List GramD} {n : Nat}, ¬ atN G n < G.length → findG G n = none
  | [], _, _ => rfl
  | y :: r, n, h => by
    rw [atN_cons] at h
    by_cases hy : y.id = n
    · simp [hy] at h
    · rw [if_neg hy] at h
      unfold findG
      rw [List.find?_cons, show (y.id == n) = false by simp [hy]]
      exact find_at_none (G := r) (by simpa using h)
theorem find_at_some : ∀ {G : List GramD} {n : Nat} (h : atN G n < G.length), findG G n = some G[atN G n] ∧ (G[atN G n]).id = n
  | [], _, h => by simp at h
  | y :: r, n, h => by
    have e := atN_cons y r n
    by_cases hy : y.id = n
    · rw [if_pos hy] at e
      have e2 : (y :: r)[atN (y :: r) n] = y := by simp [e]
      rw [e2]
      unfold findG
      rw [List.find?_cons, show (y.id == n) = true by simp [hy]]
      exact ⟨rfl, hy⟩
    · rw [if_neg hy] at e
      have h' : atN r n < r.length := by
        rw [e] at h
        simpa using h
      obtain ⟨h1, h2⟩ := find_at_some h'
      have e2 : (y :: r)[atN (y :: r) n] = r[atN r n] := by simp [e]
      rw [e2]
      unfold findG at h1 ⊢
      rw [List.find?_cons, show (y.id == n) = false by simp [hy]]
      exact ⟨h1, h2⟩
theorem drop_at : ∀ {G : List GramD} {n : Nat}, Rising G → atN G n < G.length → dropG G n = G.take (atN G n) ++ G.drop (atN G n + 1)
  | [], _, _, h => by simp at h
  | y :: r, n, hr, h => by
    obtain ⟨h1, h2⟩ := List.pairwise_cons.1 hr
    have e := atN_cons y r n
    by_cases hy : y.id = n
    · rw [if_pos hy] at e
      rw [e]
      have := drop_none r n (fun g hg => by have := h1 g hg; omega)
      unfold dropG at this ⊢
      rw [List.filter_cons, this]
      simp [hy]
    · rw [if_neg hy] at e
      have h' : atN r n < r.length := by
        rw [e] at h
        simpa using h
      have ih := drop_at h2 h'
      rw [e, List.take_succ_cons, List.drop_succ_cons, List.cons_append, ← ih]
      unfold dropG
      rw [List.filter_cons]
      simp [hy]
theorem set_at : ∀ {G : List GramD} {n : Nat} (x : GramD), Rising G → atN G n < G.length → setG G n x = G.set (atN G n) x
  | [], _, _, _, h => by simp at h
  | y :: r, n, x, hr, h => by
    obtain ⟨h1, h2⟩ := List.pairwise_cons.1 hr
    have e := atN_cons y r n
    by_cases hy : y.id = n
    · rw [if_pos hy] at e
      rw [e]
      have := set_none r n x (fun g hg => by have := h1 g hg; omega)
      unfold setG at this ⊢
      rw [List.map_cons, this]
      simp [hy]
    · rw [if_neg hy] at e
      have h' : atN r n < r.length := by
        rw [e] at h
        simpa using h
      have ih := set_at x h2 h'
      rw [e, List.set_cons_succ, ← ih]
      unfold setG
      rw [List.map_cons]
      simp [hy]
theorem drop_not {G : List GramD} {n : Nat} (h : ¬ atN G n < G.length) : dropG G n = G := dropG_none (find_at_none h)
/-- One round of the search. -/
theorem at_hit {G : List GramD} {n i : Nat} (hi : i < G.length) (hb : i ≤ atN G n) (h : G[i].id = n) : atN G n = i := by
  rcases Nat.lt_or_ge i (atN G n) with hlt | hge
  · have := List.not_of_lt_findIdx (p := fun g : GramD => g.id == n) hlt
    simp [h] at this
  · omega
theorem at_miss {G : List GramD} {n i : Nat} (hi : i < G.length) (hb : i ≤ atN G n) (h : G[i].id ≠ n) : i + 1 ≤ atN G n := by
  rcases Nat.lt_or_ge i (atN G n) with hlt | hge
  · exact hlt
  · exfalso
    have e : atN G n = i := by omega
    have h' : atN G n < G.length := by omega
    have h2 := (find_at_some h').2
    simp only [e] at h2
    exact h h2

/-! ### Memory -/
theorem flat_gram (G : List GramD) : (G.flatMap gramC).length = G.length * 3 := by
  induction G with
  | nil => rfl
  | cons y r ih => rw [List.flatMap_cons, List.length_append, ih]; simp [gramC]; omega
theorem flat_at : ∀ (G : List GramD) (i : Nat) (hi : i < G.length) (j : Nat), j < 3 → (G.flatMap gramC)[i * 3 + j]? = (gramC G[i])[j]?
  | y :: r, 0, _, j, hj => by
    rw [List.flatMap_cons, List.getElem?_append_left (by simp [gramC]; omega)]
    simp
  | y :: r, i + 1, hi, j, hj => by
    rw [List.flatMap_cons, List.getElem?_append_right (by simp [gramC]; omega)]
    have := flat_at r i (by simpa using hi) j hj
    rw [show (i + 1) * 3 + j - (gramC y).length = i * 3 + j by simp [gramC]; omega, this]
    simp
theorem flat_set (G : List GramD) (i : Nat) (hi : i < G.length) (x : GramD) : (((G.flatMap gramC).set (i * 3) (.int .u64 (x.id : Int))).set (i * 3 + 1) (.string (B x.whom))).set (i * 3 + 2) (.string (B x.text)) = (G.set i x).flatMap gramC := by
  induction G generalizing i with
  | nil => simp at hi
  | cons y r ih =>
    cases i with
    | zero => simp [gramC]
    | succ i =>
      have := ih i (by simpa using hi)
      rw [List.flatMap_cons, List.set_cons_succ, List.flatMap_cons, ← this]
      have e : ∀ k, (i + 1) * 3 + k = (gramC y).length + (i * 3 + k) := fun k => by simp [gramC]; omega
      have e0 := e 0
      rw [Nat.add_zero, Nat.add_zero] at e0
      rw [e 1, e 2, e0]
      rw [List.set_append_right _ _ (by omega), List.set_append_right _ _ (by omega), List.set_append_right _ _ (by omega)]
      simp
def refCell (v : Value) (N : NetD) : Nat → Value
  | 0 => v
  | 1 => .int .u64 (N.last : Int)
  | _ => .int .u64 (N.lost : Int)
structure RAt (w : World) (rb base : Nat) (v : Value) (N : NetD) : Prop where
  head : CellsAt w rb 3 (refCell v N)
  row : w.ownsRow base 32 3 v N.G.length (N.G.flatMap gramC)
  lo : rb < base
  top : base ≤ w.heap.size
  fine : Fine N
theorem own_kept {w w' : World} {T : Nat → Prop} {base size n : Nat} {e : TypeId} {v : Value} {xs : List Value} (h : w.ownsRow base e size v n xs) (hk : Kept T w w') (hT : ∀ k, v.ownBlock = some k → ¬ T k) : w'.ownsRow base e size v n xs := by
  have hlt := h.lt
  obtain ⟨h1, h2⟩ := h
  refine ⟨h1, ?_⟩
  rcases h2 with h2 | ⟨g, cap, cur, rfl, hg, hh, r⟩
  · exact .inl h2
  · exact .inr ⟨g, cap, cur, rfl, hg, by rw [hk.block g (hlt g rfl).2 (hT g rfl)]; exact hh, r⟩
section
variable {w w' : World} {rb base : Nat} {v : Value} {N : NetD} {T : Nat → Prop}
theorem RAt.kept (h : RAt w rb base v N) (hk : Kept T w w') (hb : ¬ T rb) (hv : ∀ k, v.ownBlock = some k → ¬ T k) : RAt w' rb base v N :=
  ⟨h.head.kept hk (h.head.lt (by omega)) hb, own_kept h.row hk hv, h.lo, Nat.le_trans h.top hk.size, h.fine⟩
theorem RAt.next (h : RAt w rb base v N) (hb : Below w.heap.size w w') : RAt w' rb base v N := h.kept (Kept.of_below (T := fun _ => False) hb) (fun h => h) (fun _ _ h => h)
theorem RAt.c0 (h : RAt w rb base v N) : w.cell? ⟨rb, 0, none⟩ = some v := (h.head 0 (by omega)).1
theorem RAt.c1 (h : RAt w rb base v N) : w.cell? ⟨rb, 1, none⟩ = some (.int .u64 (N.last : Int)) := (h.head 1 (by omega)).1
theorem RAt.c2 (h : RAt w rb base v N) : w.cell? ⟨rb, 2, none⟩ = some (.int .u64 (N.lost : Int)) := (h.head 2 (by omega)).1
theorem RAt.f0 (h : RAt w rb base v N) : w.frozen? ⟨rb, 0, none⟩ = false := (h.head 0 (by omega)).2
theorem RAt.f1 (h : RAt w rb base v N) : w.frozen? ⟨rb, 1, none⟩ = false := (h.head 1 (by omega)).2
theorem RAt.lt (h : RAt w rb base v N) : rb < w.heap.size := h.head.lt (by omega)
/-- The row, where a message stands. -/
theorem RAt.at (h : RAt w rb base v N) {i : Nat} (hi : i < N.G.length) : ∃ g cap, v = .slice (some ⟨g, 0, none⟩) N.G.length cap ∧ N.G.length ≤ cap ∧ base ≤ g ∧ g < w.heap.size ∧
    w.cell? ⟨g, i * 3, none⟩ = some (.int .u64 (N.G[i].id : Int)) ∧ w.cell? ⟨g, i * 3 + 1, none⟩ = some (.string (B N.G[i].whom)) ∧ w.cell? ⟨g, i * 3 + 2, none⟩ = some (.string (B N.G[i].text)) ∧ ∀ j, w.frozen? ⟨g, j, none⟩ = false := by
  have hr := h.row
  obtain ⟨-, ⟨-, h0⟩ | ⟨g, cap, cur, rfl, hb, hg, hnc, -⟩⟩ := hr
  · omega
  · have hlt := (h.row.lt g rfl).2
    have hc := fun j hj => h.row.cellAt (i * 3 + j) (by omega) |>.trans (flat_at N.G i hi j hj)
    refine ⟨g, cap, rfl, hnc, hb, hlt, ?_, ?_, ?_, fun j => h.row.frozenAt j⟩
    · exact hc 0 (by omega)
    · exact hc 1 (by omega)
    · exact hc 2 (by omega)
theorem RAt.slice (h : RAt w rb base v N) : ∃ p cap, v = .slice p N.G.length cap := own_slice h.row
end
/-- 'append(l, x...)', x lying in memory. -/
theorem append_grams (W : World) (base : Nat) (hb : base ≤ W.heap.size) (v : Value) (A : List GramD) (ho : W.ownsRow base 32 3 v A.length (A.flatMap gramC)) (ad : Addr) (cap : Nat) (X : List GramD)
    (hx : ∀ j u, (X.flatMap gramC)[j]? = some u → W.cell? (ad.add j) = some u) (hm : A.length + X.length ≤ 2199023255552) :
    ∃ v' w', (Builtin.append_ #[29, 29] 29 #[v, .slice (some ad) X.length cap]).run Try.prog W = .ok v' w' ∧
      w'.ownsRow base 32 3 v' (A ++ X).length ((A ++ X).flatMap gramC) ∧ W.grownBy w' v.ownBlock ∧ (v'.ownBlock = v.ownBlock ∨ v'.ownBlock = some W.heap.size) := by
  obtain ⟨i0, hi, hz0, hz1, hz2⟩ := info_parts infoG
  obtain ⟨v', w', h1, h2, h3, -, h5⟩ := run_append_own_at (P := Try.prog) W base 29 29 32 i0 _ 3 40 Try.underlying29 hi hz0 hz1 hz2 rfl (by decide)
    v A.length _ ho ad X.length cap (X.flatMap gramC) (flat_gram X) hx (fun u hu => by
      obtain ⟨c, _, hc⟩ := List.mem_flatMap.1 hu
      simp only [gramC, List.mem_cons, List.not_mem_nil, or_false] at hc
      rcases hc with rfl | rfl | rfl <;> rfl) (by unfold maxLen; omega) (by omega) hb
  refine ⟨v', w', h1, ?_, h3, h5⟩
  rw [List.flatMap_append, List.length_append]; exact h2
end Go.Proofs.Ytplfnjpoikhmbaa.Nt
