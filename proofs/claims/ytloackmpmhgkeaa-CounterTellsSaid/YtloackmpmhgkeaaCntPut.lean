/-
  Sums (layer 12) as lists of entries: what many puts make of them. No program in sight.
-/
import Derived.Test.YtloackmpmhgkeaaCntVal
open Go Go.RowKit
namespace Go.Proofs.Ytloackmpmhgkeaa.Cnt
open Base Mp

def putG (es : Ent) (c : CntD) : Ent := putL es (keyS c.by_) (max (getE es (keyS c.by_)).1 c.plus, max (getE es (keyS c.by_)).2 c.minus)
def putGs (es : Ent) (l : List CntD) : Ent := l.foldl putG es
def putT (es : Ent) (c : CntD) : Ent := putL es (keyS c.by_) (tog (getE es (keyS c.by_)).1 c.plus, tog (getE es (keyS c.by_)).2 c.minus)
theorem getE_put_same (es : Ent) (k : Key) (v : Nat × Nat) : getE (putL es (keyS k) v) (keyS k) = v := by
  unfold getE
  rw [look_put_same es _ (isKey k)]; rfl
theorem getE_put_other (es : Ent) (k q : Lit) (v : Nat × Nat) (h : q ≠ k) : getE (putL es k v) q = getE es q := by
  unfold getE
  rw [look_put_other es k q h]
theorem keyS_inj {a b : Key} (h : keyS a = keyS b) : a = b := by
  unfold keyS at h
  injection h
theorem getE_putG (es : Ent) (c : CntD) (k : Key) : getE (putG es c) (keyS k) = (max (getE es (keyS k)).1 (mxP [c] k), max (getE es (keyS k)).2 (mxM [c] k)) := by
  unfold putG
  rcases Classical.em (c.by_ = k) with h | h
  · subst h
    rw [getE_put_same]
    simp [mxP, mxM]
  · rw [getE_put_other _ _ _ _ (fun e => h (keyS_inj e).symm)]
    simp [mxP, mxM, h]
theorem getE_putGs (l : List CntD) (k : Key) : ∀ es : Ent, getE (putGs es l) (keyS k) = (max (getE es (keyS k)).1 (mxP l k), max (getE es (keyS k)).2 (mxM l k)) := by
  induction l with
  | nil => intro es; simp [putGs, mxP, mxM]
  | cons c r ih =>
    intro es
    have h := ih (putG es c)
    unfold putGs at h ⊢
    rw [List.foldl_cons, h, getE_putG]
    have e1 : mxP (c :: r) k = max (mxP [c] k) (mxP r k) := by rw [← mxP_append]; rfl
    have e2 : mxM (c :: r) k = max (mxM [c] k) (mxM r k) := by rw [← mxM_append]; rfl
    rw [e1, e2, Nat.max_assoc, Nat.max_assoc]
theorem putL_le (es : Ent) (k : Lit) (v : Nat × Nat) : (putL es k v).length ≤ es.length + 1 := by
  rw [(put_perm es k v).length_eq, List.length_cons]
  have := del_le es k
  omega
theorem putGs_le (l : List CntD) : ∀ es : Ent, (putGs es l).length ≤ es.length + l.length := by
  induction l with
  | nil => intro es; simp [putGs]
  | cons c r ih =>
    intro es
    have h := ih (putG es c)
    have h2 : (putG es c).length ≤ es.length + 1 := putL_le _ _ _
    unfold putGs at h ⊢
    rw [List.foldl_cons, List.length_cons]
    omega
theorem InU.put {es : Ent} (h : InU es) (k : Lit) (v : Nat × Nat) (h1 : v.1 < 2 ^ 64) (h2 : v.2 < 2 ^ 64) : InU (putL es k v) := fun p hp => by
  rcases mem_put hp with rfl | ⟨h3, _⟩
  · exact ⟨h1, h2⟩
  · exact h p h3
theorem InU.putG {es : Ent} (h : InU es) (c : CntD) (h1 : c.plus < 2 ^ 64) (h2 : c.minus < 2 ^ 64) : InU (putG es c) := by
  have h3 := h.get (keyS c.by_)
  exact h.put _ _ (by simp only; omega) (by simp only; omega)
theorem InU.putT {es : Ent} (h : InU es) (c : CntD) : InU (putT es c) := h.put _ _ (Nat.mod_lt _ (by decide)) (Nat.mod_lt _ (by decide))
theorem InU.putGs (l : List CntD) (hl : ∀ c ∈ l, c.plus < 2 ^ 64 ∧ c.minus < 2 ^ 64) : ∀ {es : Ent}, InU es → InU (putGs es l) := by
  induction l with
  | nil => intro es h; exact h
  | cons c r ih =>
    intro es h
    have h1 := hl c (by simp)
    exact ih (fun d hd => hl d (by simp [hd])) (h.putG c h1.1 h1.2)
/-- All keys are strings. -/
def StrKeys (es : Ent) : Prop := ∀ p ∈ es, ∃ k : Key, p.1 = keyS k ∧ k.length ≤ maxLen
theorem StrKeys.put {es : Ent} (h : StrKeys es) (k : Key) (hk : k.length ≤ maxLen) (v : Nat × Nat) : StrKeys (putL es (keyS k) v) := fun p hp => by
  rcases mem_put hp with rfl | ⟨h3, _⟩
  · exact ⟨k, rfl, hk⟩
  · exact h p h3
theorem StrKeys.putGs (l : List CntD) (hl : ∀ c ∈ l, c.by_.length ≤ maxLen) : ∀ {es : Ent}, StrKeys es → StrKeys (putGs es l) := by
  induction l with
  | nil => intro es h; exact h
  | cons c r ih => intro es h; exact ih (fun d hd => hl d (by simp [hd])) (h.put _ (hl c (by simp)) _)
/-- The function of paths that sums are. -/
def fnE (es : Ent) : Fn := fun k => getE es (keyS k)
theorem fnE_putGs (l : List CntD) : fnE (putGs [] l) = fOf l := by
  funext k
  unfold fnE fOf
  rw [getE_putGs]
  simp [getE, lookL]
end Go.Proofs.Ytloackmpmhgkeaa.Cnt
