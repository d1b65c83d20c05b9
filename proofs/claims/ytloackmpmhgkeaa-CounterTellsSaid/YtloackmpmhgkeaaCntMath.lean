/-
  Counters (layer 12) on plain data: a list of counts as a function of paths; the list in normal form; values. No program in sight. No condition.
-/
import Derived.Test.YtloackmpmhgkeaaBase
open Go
namespace Go.Proofs.Ytloackmpmhgkeaa.Cnt

abbrev Key := List UInt8
structure CntD where
  by_ : Key
  plus : Nat
  minus : Nat
deriving DecidableEq
abbrev Fn := Key → Nat × Nat
def mxP : List CntD → Key → Nat
  | [], _ => 0
  | c :: r, k => if c.by_ = k then max c.plus (mxP r k) else mxP r k
def mxM : List CntD → Key → Nat
  | [], _ => 0
  | c :: r, k => if c.by_ = k then max c.minus (mxM r k) else mxM r k
def fOf (l : List CntD) : Fn := fun k => (mxP l k, mxM l k)
theorem mxP_append (a b : List CntD) (k : Key) : mxP (a ++ b) k = max (mxP a k) (mxP b k) := by
  induction a with
  | nil => simp [mxP]
  | cons c r ih => simp only [List.cons_append, mxP]; split <;> omega
theorem mxM_append (a b : List CntD) (k : Key) : mxM (a ++ b) k = max (mxM a k) (mxM b k) := by
  induction a with
  | nil => simp [mxM]
  | cons c r ih => simp only [List.cons_append, mxM]; split <;> omega
theorem mxP_none (l : List CntD) (k : Key) (h : ∀ c ∈ l, c.by_ ≠ k) : mxP l k = 0 := by
  induction l with
  | nil => rfl
  | cons c r ih => simp only [mxP]; rw [if_neg (h c (by simp)), ih (fun d hd => h d (by simp [hd]))]
theorem mxM_none (l : List CntD) (k : Key) (h : ∀ c ∈ l, c.by_ ≠ k) : mxM l k = 0 := by
  induction l with
  | nil => rfl
  | cons c r ih => simp only [mxM]; rw [if_neg (h c (by simp)), ih (fun d hd => h d (by simp [hd]))]
theorem fOf_none (l : List CntD) (k : Key) (h : ∀ c ∈ l, c.by_ ≠ k) : fOf l k = (0, 0) := by simp [fOf, mxP_none l k h, mxM_none l k h]
theorem fOf_mem (l : List CntD) (k : Key) (h : fOf l k ≠ (0, 0)) : k ∈ l.map (·.by_) := by
  rcases Classical.em (k ∈ l.map (·.by_)) with h1 | h1
  · exact h1
  · exact absurd (fOf_none l k fun c hc e => h1 (List.mem_map.2 ⟨c, hc, e⟩)) h

/-! ### The normal form -/
def leK (a b : Key) : Bool := decide (a ≤ b)
def srt (ks : List Key) : List Key := ks.mergeSort leK
theorem srt_perm (ks : List Key) : (srt ks).Perm ks := List.mergeSort_perm _ _
theorem srt_pair (ks : List Key) : (srt ks).Pairwise (· ≤ ·) := by
  have := List.pairwise_mergeSort (le := leK) (fun a b c h k => decide_eq_true (List.le_trans (of_decide_eq_true h) (of_decide_eq_true k))) (fun a b => by
    rcases List.le_total a b with h | h
    · simp [leK, h]
    · simp [leK, h]) ks
  exact this.imp fun h => of_decide_eq_true h
def live (f : Fn) (k : Key) : Bool := decide (f k ≠ (0, 0))
def mk (f : Fn) (k : Key) : CntD := ⟨k, (f k).1, (f k).2⟩
def norm (ks : List Key) (f : Fn) : List CntD := ((srt ks).filter (live f)).map (mk f)
/-- Two rising lists without repetitions that have the same members are one. -/
theorem rising_unique {a b : List Key} (ha : a.Pairwise (· ≤ ·)) (hb : b.Pairwise (· ≤ ·)) (na : a.Nodup) (nb : b.Nodup) (h : ∀ k, k ∈ a ↔ k ∈ b) : a = b := by
  have hp : a.Perm b := (List.perm_ext_iff_of_nodup na nb).2 h
  exact hp.eq_of_pairwise (fun _ _ _ _ h1 h2 => List.le_antisymm h1 h2) ha hb
theorem keys_unique {ks ks' : List Key} {f : Fn} (hn : ks.Nodup) (hn' : ks'.Nodup) (hs : ∀ k, f k ≠ (0, 0) → k ∈ ks) (hs' : ∀ k, f k ≠ (0, 0) → k ∈ ks') : (srt ks).filter (live f) = (srt ks').filter (live f) := by
  refine rising_unique ((srt_pair ks).filter _) ((srt_pair ks').filter _) (((srt_perm ks).nodup_iff.2 hn).filter _) (((srt_perm ks').nodup_iff.2 hn').filter _) fun k => ?_
  rw [List.mem_filter, List.mem_filter, (srt_perm ks).mem_iff, (srt_perm ks').mem_iff]
  constructor
  · rintro ⟨_, h⟩
    exact ⟨hs' k (by simpa [live] using h), h⟩
  · rintro ⟨_, h⟩
    exact ⟨hs k (by simpa [live] using h), h⟩
/-- l is the normal form of f. -/
def Canon (l : List CntD) (f : Fn) : Prop := ∃ ks : List Key, ks.Nodup ∧ (∀ k, f k ≠ (0, 0) → k ∈ ks) ∧ l = norm ks f
theorem Canon.unique {l l' : List CntD} {f : Fn} (h : Canon l f) (h' : Canon l' f) : l = l' := by
  obtain ⟨ks, hn, hs, rfl⟩ := h
  obtain ⟨ks', hn', hs', rfl⟩ := h'
  unfold norm
  rw [keys_unique hn hn' hs hs']
theorem Canon.rising {l : List CntD} {f : Fn} (h : Canon l f) : (l.map (·.by_)).Pairwise (· < ·) := by
  obtain ⟨ks, hn, hs, rfl⟩ := h
  unfold norm
  rw [List.map_map, show ((·.by_) ∘ mk f) = id from rfl, List.map_id]
  have h1 := (srt_pair ks).filter (live f)
  have h2 : ((srt ks).filter (live f)).Nodup := ((srt_perm ks).nodup_iff.2 hn).filter _
  refine (h1.and h2).imp fun {x y} hxy => ?_
  rcases Classical.em (x < y) with h | h
  · exact h
  · exact absurd (List.le_antisymm hxy.1 (List.not_lt.1 h)) hxy.2
theorem mem_norm {ks : List Key} {f : Fn} {c : CntD} : c ∈ norm ks f ↔ c.by_ ∈ ks ∧ f c.by_ ≠ (0, 0) ∧ c = mk f c.by_ := by
  unfold norm
  rw [List.mem_map]
  constructor
  · rintro ⟨k, hk, rfl⟩
    rw [List.mem_filter, (srt_perm ks).mem_iff] at hk
    exact ⟨hk.1, of_decide_eq_true hk.2, rfl⟩
  · rintro ⟨h1, h2, h3⟩
    exact ⟨c.by_, List.mem_filter.2 ⟨(srt_perm ks).mem_iff.2 h1, by simpa [live] using h2⟩, h3.symm⟩
/-- In a list without repetitions the greatest is the one. -/
theorem mx_one (l : List CntD) (hn : (l.map (·.by_)).Nodup) (c : CntD) (hc : c ∈ l) : mxP l c.by_ = c.plus ∧ mxM l c.by_ = c.minus := by
  induction l with
  | nil => cases hc
  | cons d r ih =>
    rw [List.map_cons, List.nodup_cons] at hn
    rcases List.mem_cons.1 hc with rfl | h
    · have hr : ∀ e ∈ r, e.by_ ≠ c.by_ := fun e he e2 => hn.1 (List.mem_map.2 ⟨e, he, e2⟩)
      simp only [mxP, mxM, if_true, mxP_none r _ hr, mxM_none r _ hr]
      omega
    · have hne : d.by_ ≠ c.by_ := fun e => hn.1 (List.mem_map.2 ⟨c, h, e.symm⟩)
      simp only [mxP, mxM]
      rw [if_neg hne, if_neg hne]
      exact ih hn.2 h
theorem Canon.fn {l : List CntD} {f : Fn} (h : Canon l f) : fOf l = f := by
  have hr := h.rising
  have hnd : (l.map (·.by_)).Nodup := hr.imp fun h e => by rw [e] at h; exact List.lt_irrefl _ h
  obtain ⟨ks, hn, hs, rfl⟩ := h
  funext k
  rcases Classical.em (f k = (0, 0)) with h0 | h0
  · rw [h0]
    refine fOf_none _ k fun c hc e => ?_
    obtain ⟨_, h2, _⟩ := mem_norm.1 hc
    rw [e] at h2
    exact h2 h0
  · have hm : mk f k ∈ norm ks f := mem_norm.2 ⟨hs k h0, h0, rfl⟩
    obtain ⟨h1, h2⟩ := mx_one _ hnd _ hm
    have h1' : mxP (norm ks f) k = (f k).1 := h1
    have h2' : mxM (norm ks f) k = (f k).2 := h2
    simp [fOf, h1', h2']
/-- May a list be a counter? -/
def may : List CntD → Bool
  | [] => true
  | [c] => decide (¬ (c.plus = 0 ∧ c.minus = 0))
  | c :: d :: r => decide (¬ (c.plus = 0 ∧ c.minus = 0)) && decide (c.by_ < d.by_) && may (d :: r)
theorem may_iff (l : List CntD) : may l = true ↔ (∀ c ∈ l, ¬ (c.plus = 0 ∧ c.minus = 0)) ∧ (l.map (·.by_)).Pairwise (· < ·) := by
  induction l with
  | nil => simp [may]
  | cons c r ih =>
    cases r with
    | nil => simp [may]; omega
    | cons d r =>
      simp only [may, Bool.and_eq_true, decide_eq_true_eq, ih, List.map_cons, List.pairwise_cons, List.mem_cons]
      constructor
      · rintro ⟨⟨h1, h2⟩, h3, h4, h5⟩
        refine ⟨fun x hx => ?_, ⟨fun x hx => ?_, h4, h5⟩⟩
        · rcases hx with rfl | hx
          · exact h1
          · exact h3 x (by simpa using hx)
        · rcases hx with rfl | hx
          · exact h2
          · exact List.lt_trans h2 (h4 x hx)
      · rintro ⟨h1, h2, h4, h5⟩
        exact ⟨⟨h1 c (.inl rfl), h2 _ (.inl rfl)⟩, fun x hx => h1 x (.inr (by simpa using hx)), h4, h5⟩
theorem Canon.may {l : List CntD} {f : Fn} (h : Canon l f) : may l = true := by
  have hr := h.rising
  refine (may_iff l).2 ⟨fun c hc => ?_, hr⟩
  obtain ⟨ks, hn, hs, rfl⟩ := h
  obtain ⟨_, h2, h3⟩ := mem_norm.1 hc
  rintro ⟨a, b⟩
  apply h2
  rw [h3] at a b
  exact Prod.ext a b
theorem may_canon {l : List CntD} (h : Cnt.may l = true) : Canon l (fOf l) := by
  obtain ⟨h1, h2⟩ := (may_iff l).1 h
  have hnd : (l.map (·.by_)).Nodup := h2.imp fun h e => by rw [e] at h; exact List.lt_irrefl _ h
  refine ⟨l.map (·.by_), hnd, fun k hk => fOf_mem l k hk, ?_⟩
  have hs : (srt (l.map (·.by_))).filter (live (fOf l)) = l.map (·.by_) := by
    refine rising_unique ((srt_pair _).filter _) (h2.imp fun h => List.le_of_lt h) (((srt_perm _).nodup_iff.2 hnd).filter _) hnd fun k => ?_
    rw [List.mem_filter, (srt_perm _).mem_iff]
    refine ⟨fun h => h.1, fun hk => ⟨hk, ?_⟩⟩
    obtain ⟨c, hc, rfl⟩ := List.mem_map.1 hk
    obtain ⟨a, b⟩ := mx_one l hnd c hc
    have := h1 c hc
    simp only [live, fOf, a, b, decide_eq_true_eq, ne_eq, Prod.mk.injEq]
    exact this
  unfold norm
  rw [hs, List.map_map]
  refine (List.map_id l).symm.trans (List.map_congr_left fun c hc => ?_)
  obtain ⟨a, b⟩ := mx_one l hnd c hc
  show c = ⟨c.by_, mxP l c.by_, mxM l c.by_⟩
  rw [a, b]

/-! ### Values -/
def term (f : Fn) (k : Key) : Int := ((f k).1 : Int) - ((f k).2 : Int)
def vSum (ks : List Key) (f : Fn) : Int := (ks.map (term f)).sum
theorem perm_sum {a b : List Key} (f : Fn) (h : a.Perm b) : vSum a f = vSum b f := by
  unfold vSum
  induction h with
  | nil => rfl
  | cons x _ ih => simp only [List.map_cons, List.sum_cons, ih]
  | swap x y l => simp only [List.map_cons, List.sum_cons]; omega
  | trans _ _ h1 h2 => rw [h1, h2]
theorem sum_live (ks : List Key) (f : Fn) : vSum ks f = vSum (ks.filter (live f)) f := by
  induction ks with
  | nil => rfl
  | cons k r ih =>
    rw [List.filter_cons]
    unfold vSum at ih ⊢
    split
    · simp only [List.map_cons, List.sum_cons, ih]
    · rename_i h
      have h0 : f k = (0, 0) := by simpa [live] using h
      simp only [List.map_cons, List.sum_cons, ih]
      simp [term, h0]
theorem vSum_ext {ks ks' : List Key} {f : Fn} (hn : ks.Nodup) (hn' : ks'.Nodup) (hs : ∀ k, f k ≠ (0, 0) → k ∈ ks) (hs' : ∀ k, f k ≠ (0, 0) → k ∈ ks') : vSum ks f = vSum ks' f := by
  rw [← perm_sum f (srt_perm ks), ← perm_sum f (srt_perm ks'), sum_live, sum_live (srt ks'), keys_unique hn hn' hs hs']
end Go.Proofs.Ytloackmpmhgkeaa.Cnt
