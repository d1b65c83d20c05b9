/-
  Counters (layer 12) on plain data: what Fold and Add make of a list; values. No program in sight.
-/
import Derived.Test.YtloackmpmhgkeaaCntList
open Go Go.RowKit Go.Maps
namespace Go.Proofs.Ytloackmpmhgkeaa.Cnt
open Base Mp

/-! ### Keys of entries -/
def Dist (es : Ent) : Prop := es.Pairwise fun p q => p.1 ≠ q.1
theorem Dist.del {es : Ent} (h : Dist es) (k : Lit) : Dist (delL es k) := List.Pairwise.filter _ h
theorem Dist.put {es : Ent} (h : Dist es) (k : Key) (v : Nat × Nat) : Dist (putL es (keyS k) v) := by
  unfold Dist
  rw [(put_perm es (keyS k) v).pairwise_iff (fun {x y} hxy e => hxy e.symm)]
  refine List.pairwise_cons.2 ⟨fun p hp e => ?_, h.del _⟩
  have h2 := (mem_del hp).2
  rw [← show keyS k = p.1 from e, WideAt.sameKey_self (isKey k)] at h2
  cases h2
theorem Dist.putGs (l : List CntD) : ∀ {es : Ent}, Dist es → Dist (putGs es l) := by
  induction l with
  | nil => intro es h; exact h
  | cons c r ih => intro es h; exact ih (h.put _ _)
theorem dist_putGs (l : List CntD) : Dist (putGs [] l) := Dist.putGs l List.Pairwise.nil
theorem Canon.of {es : Ent} (hs : StrKeys es) (hd : Dist es) : Canon (norm (keysE es) (fnE es)) (fnE es) := ⟨keysE es, keysE_nodup hs hd, fun k h => mem_keysE k h, rfl⟩
theorem norm_le (es : Ent) (f : Fn) : (norm (keysE es) f).length ≤ es.length := by
  unfold norm
  rw [List.length_map]
  refine Nat.le_trans (List.length_filter_le _ _) ?_
  rw [(srt_perm _).length_eq, keysE, List.length_map]
  exact Nat.le_refl _

/-! ### Values -/
theorem nodup_cover : ∀ K : List Key, ∃ ks : List Key, ks.Nodup ∧ ∀ k, k ∈ K ↔ k ∈ ks
  | [] => ⟨[], List.nodup_nil, fun _ => Iff.rfl⟩
  | a :: r => by
    obtain ⟨ks, h1, h2⟩ := nodup_cover r
    rcases Classical.em (a ∈ ks) with h | h
    · exact ⟨ks, h1, fun k => ⟨fun hk => by
        rcases List.mem_cons.1 hk with rfl | hk
        · exact h
        · exact (h2 k).1 hk, fun hk => List.mem_cons_of_mem _ ((h2 k).2 hk)⟩⟩
    · exact ⟨a :: ks, List.nodup_cons.2 ⟨h, h1⟩, fun k => by rw [List.mem_cons, List.mem_cons, h2 k]⟩
theorem vSum_congr {ks : List Key} {f g : Fn} (h : ∀ k ∈ ks, f k = g k) : vSum ks f = vSum ks g := by
  unfold vSum
  congr 1
  exact List.map_congr_left fun k hk => by unfold term; rw [h k hk]
theorem vSum_update {ks : List Key} {f g : Fn} {k : Key} (hn : ks.Nodup) (hk : k ∈ ks) (h : ∀ j, j ≠ k → f j = g j) : vSum ks f = vSum ks g + term f k - term g k := by
  induction ks with
  | nil => cases hk
  | cons a r ih =>
    obtain ⟨h1, h2⟩ := List.nodup_cons.1 hn
    have e : ∀ f : Fn, vSum (a :: r) f = term f a + vSum r f := fun f => by unfold vSum; rw [List.map_cons, List.sum_cons]
    rw [e, e]
    rcases List.mem_cons.1 hk with rfl | hk
    · rw [vSum_congr (f := f) (g := g) fun j hj => h j fun e => h1 (e ▸ hj)]
      omega
    · have ha : a ≠ k := fun e => h1 (e ▸ hk)
      rw [ih h2 hk, show term f a = term g a by unfold term; rw [h a ha]]
      omega
/-- The sum of a list, by whatever keys that hold all that is not nothing. -/
theorem sum_of {l : List CntD} {f : Fn} (h : fOf l = f) (ho : StrKeys (putGs [] l)) {ks : List Key} (hn : ks.Nodup) (hs : ∀ k, f k ≠ (0, 0) → k ∈ ks) : allV (putGs [] l) = vSum ks f := by
  rw [allV_vSum ho (dist_putGs l), fnE_putGs, h]
  exact vSum_ext (keysE_nodup ho (dist_putGs l)) hn (fun k hk => mem_keysE k (by rw [fnE_putGs, h]; exact hk)) hs
def valF (f : Fn) (ks : List Key) : Int := wrap64 (vSum ks f)

/-! ### Fold -/
def foldE (es : Ent) (k : Key) : Ent := if k = [] then es else delL (putT es ⟨[], (getE es (keyS k)).1, (getE es (keyS k)).2⟩) (keyS k)
theorem fold_some (es : Ent) {k : Key} (h : ¬ k = []) : foldE es k = delL (putT es ⟨[], (getE es (keyS k)).1, (getE es (keyS k)).2⟩) (keyS k) := by unfold foldE; rw [if_neg h]
def foldF (f : Fn) (x : Key) : Fn := fun k => if x = [] then f k else if k = x then (0, 0) else if k = [] then (tog (f []).1 (f x).1, tog (f []).2 (f x).2) else f k
theorem fnE_putT (es : Ent) (c : CntD) (k : Key) : fnE (putT es c) k = if k = c.by_ then (tog (fnE es c.by_).1 c.plus, tog (fnE es c.by_).2 c.minus) else fnE es k := by
  unfold fnE putT
  split
  · rename_i h; subst h; rw [getE_put_same]
  · rename_i h; rw [getE_put_other _ _ _ _ (fun e => h (keyS_inj e))]
theorem fnE_foldE (es : Ent) (x : Key) : fnE (foldE es x) = foldF (fnE es) x := by
  funext k
  unfold foldF
  by_cases hx : x = []
  · rw [if_pos hx, foldE, if_pos hx]
  · rw [if_neg hx, fold_some es hx]
    by_cases hk : k = x
    · subst hk
      rw [if_pos rfl]
      unfold fnE getE
      rw [look_del_same]; rfl
    · rw [if_neg hk]
      have h1 : fnE (delL (putT es ⟨[], (getE es (keyS x)).1, (getE es (keyS x)).2⟩) (keyS x)) k = fnE (putT es ⟨[], (getE es (keyS x)).1, (getE es (keyS x)).2⟩) k := by
        unfold fnE getE
        rw [look_del_other _ _ _ (fun e => hk (keyS_inj e))]
      rw [h1, fnE_putT]
      rfl
theorem InU.del {es : Ent} (h : InU es) (k : Lit) : InU (delL es k) := fun p hp => h p (mem_del hp).1
theorem StrKeys.del {es : Ent} (h : StrKeys es) (k : Lit) : StrKeys (delL es k) := fun p hp => h p (mem_del hp).1
theorem StrKeys.putT {es : Ent} (h : StrKeys es) (c : CntD) (hc : c.by_.length ≤ maxLen) : StrKeys (putT es c) := h.put _ hc _
theorem putT_le (es : Ent) (c : CntD) : (putT es c).length ≤ es.length + 1 := putL_le _ _ _
theorem StrKeys.fold {es : Ent} (h : StrKeys es) (k : Key) : StrKeys (foldE es k) := by
  unfold foldE
  split
  · exact h
  · exact (h.putT _ (by simp)).del _
theorem InU.fold {es : Ent} (h : InU es) (k : Key) : InU (foldE es k) := by
  unfold foldE
  split
  · exact h
  · exact (InU.putT h _).del _
theorem Dist.fold {es : Ent} (h : Dist es) (k : Key) : Dist (foldE es k) := by
  unfold foldE
  split
  · exact h
  · exact (h.put _ _).del _
theorem foldE_le (es : Ent) (k : Key) : (foldE es k).length ≤ es.length + 1 := by
  unfold foldE
  split
  · omega
  · exact Nat.le_trans (del_le _ _) (putT_le _ _)
theorem foldF_comm (f : Fn) (x y : Key) : foldF (foldF f x) y = foldF (foldF f y) x := by
  by_cases hx : x = []
  · have e : ∀ g : Fn, foldF g x = g := fun g => by funext k; unfold foldF; rw [if_pos hx]
    rw [e, e]
  · by_cases hy : y = []
    · have e : ∀ g : Fn, foldF g y = g := fun g => by funext k; unfold foldF; rw [if_pos hy]
      rw [e, e]
    · by_cases hxy : x = y
      · rw [hxy]
      · funext k
        have hyx : ¬ y = x := fun e => hxy e.symm
        have hx' : ¬ [] = x := fun e => hx e.symm
        have hy' : ¬ [] = y := fun e => hy e.symm
        unfold foldF
        simp only [if_neg hx, if_neg hy, if_neg hxy, if_neg hyx, if_neg hx', if_neg hy', if_true]
        by_cases h1 : k = y
        · have h2 : ¬ k = x := fun e => hyx (h1 ▸ e)
          have h3 : ¬ k = [] := fun e => hy (h1 ▸ e)
          simp only [if_pos h1, if_neg h2, if_neg h3]
        · by_cases h2 : k = x
          · have h3 : ¬ k = [] := fun e => hx (h2 ▸ e)
            simp only [if_neg h1, if_pos h2, if_neg h3]
          · simp only [if_neg h1, if_neg h2]
            by_cases h3 : k = []
            · simp only [if_pos h3]
              unfold tog
              rw [Prod.mk.injEq]
              omega
            · simp only [if_neg h3]
theorem fold_val {f : Fn} {ks : List Key} (x : Key) (hn : ks.Nodup) (h0 : [] ∈ ks) (hx : x ∈ ks) : vSum ks (foldF f x) % 2 ^ 64 = vSum ks f % 2 ^ 64 := by
  by_cases h : x = []
  · rw [show foldF f x = f by funext k; unfold foldF; rw [if_pos h]]
  · have h' : ¬ [] = x := fun e => h e.symm
    have e1 := vSum_update (f := foldF f x) (g := fun k => if k = [] then foldF f x [] else f k) (k := x) hn hx fun j hj => by
      unfold foldF
      rw [if_neg h, if_neg hj]
      by_cases hj0 : j = []
      · subst hj0
        simp [h, h']
      · simp only [if_neg hj0]
    have e2 := vSum_update (f := fun k => if k = [] then foldF f x [] else f k) (g := f) (k := []) hn h0 fun j hj => if_neg hj
    rw [e1, e2]
    simp only [term, foldF, if_neg h, if_neg h', if_true]
    unfold tog
    omega
/-! ### Add -/
def addF (f : Fn) (x : Key) (up down : Nat) : Fn := fun k => if k = x then (tog (f x).1 up, tog (f x).2 down) else f k
theorem add_val {f : Fn} {ks : List Key} {x : Key} {up down : Nat} (hn : ks.Nodup) (hx : x ∈ ks) (h1 : (f x).1 + up < 2 ^ 64) (h2 : (f x).2 + down < 2 ^ 64) : vSum ks (addF f x up down) = vSum ks f + up - down := by
  rw [vSum_update (f := addF f x up down) (g := f) (k := x) hn hx fun j hj => if_neg hj]
  simp only [term, addF, if_true, tog, Nat.mod_eq_of_lt h1, Nat.mod_eq_of_lt h2]
  omega

/-! ### May, by places -/
theorem may_adj : ∀ l : List CntD, may l = true ↔ ∀ j (h : j < l.length), ¬ (l[j].plus = 0 ∧ l[j].minus = 0) ∧ ∀ _h0 : 0 < j, l[j - 1].by_ < l[j].by_
  | [] => by simp [may]
  | [c] => by
    simp only [may, decide_eq_true_eq]
    constructor
    · intro h j hj
      obtain rfl : j = 0 := by simpa using hj
      exact ⟨h, fun h0 => absurd h0 (by omega)⟩
    · intro h; exact (h 0 (by simp)).1
  | c :: d :: r => by
    simp only [may, Bool.and_eq_true, decide_eq_true_eq]
    rw [may_adj (d :: r)]
    constructor
    · rintro ⟨⟨h1, h2⟩, h3⟩ j hj
      rcases j with _ | _ | j
      · exact ⟨h1, fun h0 => absurd h0 (by omega)⟩
      · exact ⟨(h3 0 (by simp)).1, fun _ => h2⟩
      · exact ⟨(h3 (j + 1) (by simpa using hj)).1, fun _ => (h3 (j + 1) (by simpa using hj)).2 (by omega)⟩
    · intro h
      refine ⟨⟨(h 0 (by simp)).1, (h 1 (by simp)).2 (by omega)⟩, fun j hj => ⟨(h (j + 1) (by simpa using hj)).1, fun h0 => ?_⟩⟩
      have h4 := (h (j + 1) (by simpa using hj)).2 (by omega)
      obtain ⟨i, rfl⟩ : ∃ i, j = i + 1 := ⟨j - 1, by omega⟩
      exact h4
end Go.Proofs.Ytloackmpmhgkeaa.Cnt
