/-
  The counter's functions (layer 12), their results as lists in normal form.
-/
import Derived.Test.YtloackmpmhgkeaaCntOps
open Go Go.RowKit Go.Maps
namespace Go.Proofs.Ytloackmpmhgkeaa.Cnt
open Base Mp

theorem flat_get : ∀ (l : List CntD) (j : Nat) (h : j < l.length) (i : Nat), i < 3 → (l.flatMap cntC)[j * 3 + i]? = (cntC l[j])[i]?
  | [], j, h, _, _ => absurd h (by simp)
  | c :: r, j, h, i, hi => by
    have hc : (cntC c).length = 3 := rfl
    rw [List.flatMap_cons]
    cases j with
    | zero => rw [List.getElem?_append_left (by omega)]; simp
    | succ j => rw [List.getElem?_append_right (by omega), hc, show (j + 1) * 3 + i - 3 = j * 3 + i by omega, flat_get r j (by simpa using h) i hi]; rfl
theorem arg_of_own {w : World} {base m : Nat} {v : Value} {l : List CntD} (h : w.ownsRow base 43 3 v m (l.flatMap cntC)) (hm : m = l.length) (ho : Oks l) : ∃ p cap, v = .slice p l.length cap ∧ CntsArg w p l := by
  subst hm
  rcases h.2 with ⟨h1, h2⟩ | ⟨g, cap, cur, rfl, _⟩
  · have hl : l = [] := List.length_eq_zero_iff.1 h2
    subst hl
    exact ⟨none, 0, h1, fun j hj => by simp at hj⟩
  · refine ⟨some ⟨g, 0, none⟩, cap, rfl, fun j hj => ⟨g, 0, rfl, ⟨?_, ?_, ?_⟩, ho _ (List.getElem_mem hj)⟩⟩
    · have := h.cellAt (j * 3 + 0) (by omega)
      rw [flat_get l j hj 0 (by omega)] at this
      rw [Nat.zero_add]; exact this
    · have := h.cellAt (j * 3 + 1) (by omega)
      rw [flat_get l j hj 1 (by omega)] at this
      rw [Nat.zero_add]; exact this
    · have := h.cellAt (j * 3 + 2) (by omega)
      rw [flat_get l j hj 2 (by omega)] at this
      rw [Nat.zero_add]; exact this
theorem oks_norm {es : Ent} (hu : InU es) (hs : StrKeys es) : Oks (norm (keysE es) (fnE es)) := fun c hc => by
  obtain ⟨h1, _, h3⟩ := mem_norm.1 hc
  have hg := hu.get (keyS c.by_)
  refine ⟨keysE_len hs h1, ?_, ?_⟩
  · rw [h3]; exact hg.1
  · rw [h3]; exact hg.2
/-- What a function hands back: a list in normal form, readable. -/
def Gives (w w' : World) (v : Value) (f : Fn) (n : Nat) : Prop := ∃ p cap l, v = .slice p l.length cap ∧ CntsArg w' p l ∧ Canon l f ∧ l.length ≤ n ∧ Below w.heap.size w w'
theorem gives_of {w w' : World} {v : Value} {m n : Nat} {es : Ent} (ho : w'.ownsRow w.heap.size 43 3 v m ((norm (keysE es) (fnE es)).flatMap cntC)) (hm : m = (norm (keysE es) (fnE es)).length) (hb : Below w.heap.size w w')
    (hu : InU es) (hs : StrKeys es) (hd : Dist es) (hn : es.length ≤ n) : Gives w w' v (fnE es) n := by
  obtain ⟨p, cap, h1, h2⟩ := arg_of_own ho hm (oks_norm hu hs)
  exact ⟨p, cap, _, h1, h2, Canon.of hs hd, Nat.le_trans (norm_le es _) hn, hb⟩
theorem Join_f (w : World) (p q : Option Addr) (cap cap' : Nat) (a b : List CntD) (h : CntsArg w p a) (k : CntsArg w q b) (hn : a.length + b.length ≤ 4398046511103) :
    Calls Try.prog 16 #[.slice p a.length cap, .slice q b.length cap'] w fun e w' => ∃ v, e = .returned v ∧ Gives w w' v (fOf (a ++ b)) (a.length + b.length) := by
  have hOK : Oks (a ++ b) := fun c hc => (List.mem_append.1 hc).elim (h.ok c) (k.ok c)
  refine (Join_raw w p q cap cap' a b h k hn).mono ?_
  rintro e w' ⟨v, m, rfl, ho, hm, hb⟩
  refine ⟨v, rfl, ?_⟩
  rw [← fnE_putGs] at ho hm ⊢
  exact gives_of ho hm hb hOK.inU hOK.str (dist_putGs _) (by have := putGs_len (a ++ b); rwa [List.length_append] at this)
theorem Fold_f (w : World) (p : Option Addr) (cap : Nat) (l : List CntD) (k : Key) (h : CntsArg w p l) (hn : l.length ≤ 4398046511102) (hk : k.length ≤ maxLen) :
    Calls Try.prog 18 #[.slice p l.length cap, .string (B k)] w fun e w' => ∃ v, e = .returned v ∧ Gives w w' v (foldF (fOf l) k) (l.length + 1) := by
  have hOK : Oks l := h.ok
  refine (Fold_raw w p cap l k h hn hk).mono ?_
  rintro e w' ⟨v, m, rfl, ho, hm, hb⟩
  refine ⟨v, rfl, ?_⟩
  have := gives_of ho hm hb (hOK.inU.fold k) (hOK.str.fold k) ((dist_putGs l).fold k) (n := l.length + 1) (by have h1 := foldE_le (putGs [] l) k; have h2 := putGs_len l; omega)
  rw [fnE_foldE, fnE_putGs] at this
  exact this
end Go.Proofs.Ytloackmpmhgkeaa.Cnt
