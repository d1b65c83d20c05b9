/-
  The net (layer 30), plain: the messages under way by rising numbers, as lists; the map's entries that they are. No condition.
-/
import Derived.Test.YtplfnjpoikhmbaaMaps
open Go Go.RowKit
namespace Go.Proofs.Ytplfnjpoikhmbaa.Nt
open Base Mp

structure GramD where
  id : Nat
  whom : List UInt8
  text : List UInt8
  deriving DecidableEq
abbrev keyU (n : Nat) : Lit := .int .u64 (n : Int)
def gramV (g : GramD) : Value := .agg #[.int .u64 (g.id : Int), .string (B g.whom), .string (B g.text)]
def entG (g : GramD) : Lit × Value := (keyU g.id, gramV g)
theorem same_keyU (a b : Nat) : (keyU a).sameKey (keyU b) = (a == b) := by
  rw [Bool.eq_iff_iff]
  simp [Lit.sameKey]
  omega
theorem before_keyU (a b : Nat) : (keyU a).before (keyU b) = decide (a < b) := by
  rw [Bool.eq_iff_iff]
  simp [Lit.before]
structure NetD where
  G : List GramD
  last : Nat
  lost : Nat
def findG (G : List GramD) (n : Nat) : Option GramD := G.find? fun g => g.id == n
def dropG (G : List GramD) (n : Nat) : List GramD := G.filter fun g => !(g.id == n)
def setG (G : List GramD) (n : Nat) (x : GramD) : List GramD := G.map fun g => if g.id == n then x else g
def Rising (G : List GramD) : Prop := G.Pairwise fun p q => p.id < q.id

theorem look_ent (G : List GramD) (n : Nat) : lookL (G.map entG) (keyU n) = (findG G n).map gramV := by
  unfold lookL findG
  rw [List.find?_map, show ((fun p : Lit × Value => p.1.sameKey (keyU n)) ∘ entG) = fun g : GramD => g.id == n from funext fun g => same_keyU _ _]
  cases List.find? (fun g : GramD => g.id == n) G <;> rfl
theorem del_ent (G : List GramD) (n : Nat) : delL (G.map entG) (keyU n) = (dropG G n).map entG := by
  unfold delL dropG
  rw [List.filter_map, show ((fun p : Lit × Value => !p.1.sameKey (keyU n)) ∘ entG) = fun g : GramD => !(g.id == n) from funext fun g => congrArg (!·) (same_keyU _ _)]
theorem ins_end {α : Type} (x : Lit × α) : ∀ es : List (Lit × α), (∀ p ∈ es, x.1.before p.1 = false) → insL x es = es ++ [x]
  | [], _ => rfl
  | y :: r, h => by
    unfold insL
    rw [h y (by simp), ins_end x r (fun p hp => h p (by simp [hp]))]
    rfl
theorem drop_none (G : List GramD) (n : Nat) (h : ∀ g ∈ G, g.id ≠ n) : dropG G n = G := by
  unfold dropG
  rw [List.filter_eq_self]
  intro g hg
  simp [h g hg]
theorem put_new (G : List GramD) (g : GramD) (h : ∀ x ∈ G, x.id < g.id) : putL (G.map entG) (keyU g.id) (gramV g) = (G ++ [g]).map entG := by
  unfold putL
  rw [del_ent, drop_none _ _ (fun x hx => by have := h x hx; omega), ins_end, List.map_append]
  · rfl
  · intro p hp
    obtain ⟨x, hx, rfl⟩ := List.mem_map.1 hp
    show (keyU g.id).before (keyU x.id) = false
    rw [before_keyU]
    have := h x hx
    simp; omega
theorem set_none (G : List GramD) (n : Nat) (x : GramD) (h : ∀ g ∈ G, g.id ≠ n) : setG G n x = G := by
  unfold setG
  conv => rhs; rw [← List.map_id G]
  refine List.map_congr_left fun g hg => ?_
  simp [h g hg]
theorem put_old (x : GramD) : ∀ (G : List GramD), Rising G → (findG G x.id).isSome = true → putL (G.map entG) (keyU x.id) (gramV x) = (setG G x.id x).map entG
  | [], _, h => by simp [findG] at h
  | y :: r, hr, h => by
    obtain ⟨h1, h2⟩ := List.pairwise_cons.1 hr
    unfold putL
    rw [del_ent]
    by_cases hy : y.id = x.id
    · have hn : ∀ g ∈ r, g.id ≠ x.id := fun g hg => by have := h1 g hg; omega
      have e1 : dropG (y :: r) x.id = r := by
        have := drop_none r x.id hn
        unfold dropG at this ⊢
        rw [List.filter_cons, this]
        simp [hy]
      have e2 : setG (y :: r) x.id x = x :: r := by
        have := set_none r x.id x hn
        unfold setG at this ⊢
        rw [List.map_cons, this]
        simp [hy]
      rw [e1, e2]
      cases r with
      | nil => rfl
      | cons z s =>
        have hz := h1 z (by simp)
        rw [List.map_cons, insL, show (entG z).1 = keyU z.id from rfl, before_keyU, if_pos (by simp; omega)]
        rfl
    · have h' : (findG r x.id).isSome = true := by
        unfold findG at h ⊢
        rw [List.find?_cons, show (y.id == x.id) = false by simp [hy]] at h
        exact h
      have ih := put_old x r h2 h'
      unfold putL at ih
      rw [del_ent] at ih
      have hlt : y.id < x.id := by
        unfold findG at h'
        obtain ⟨z, hz⟩ := Option.isSome_iff_exists.1 h'
        have h3 := List.mem_of_find?_eq_some hz
        have h4 := List.find?_some hz
        have := h1 z h3
        simp at h4
        omega
      have e1 : dropG (y :: r) x.id = y :: dropG r x.id := by
        unfold dropG
        rw [List.filter_cons]
        simp [hy]
      have e2 : setG (y :: r) x.id x = y :: setG r x.id x := by
        unfold setG
        rw [List.map_cons]
        simp [hy]
      rw [e1, e2, List.map_cons, insL, show (entG y).1 = keyU y.id from rfl, before_keyU, if_neg (by simp; omega), ih]
      rfl

/-! ### What the calls do -/
structure Fine (N : NetD) : Prop where
  rise : Rising N.G
  low : ∀ g ∈ N.G, 1 ≤ g.id ∧ g.id ≤ N.last
  few : N.G.length ≤ 1024
def putN (N : NetD) (to_ t : List UInt8) : NetD := ⟨N.G ++ [⟨N.last + 1, to_, t⟩], N.last + 1, N.lost⟩
def sendN (N : NetD) (to_ t : List UInt8) : NetD := if N.G.length < 1024 then putN N to_ t else ⟨N.G, N.last, N.lost + 1⟩
def sends (to_ : List UInt8) (N : NetD) (ts : List (List UInt8)) : NetD × Nat := ts.foldl (fun S t => (sendN S.1 to_ t, S.2 + if S.1.G.length < 1024 then 1 else 0)) (N, 0)
def dropN (N : NetD) (n : Nat) : NetD := ⟨dropG N.G n, N.last, N.lost⟩
def drops (N : NetD) (ns : List Nat) : NetD × Nat := ns.foldl (fun S n => if (findG S.1.G n).isSome then (dropN S.1 n, S.2 + 1) else S) (N, 0)
def turnT (t : List UInt8) (at_ : Nat) (by_ : UInt8) : List UInt8 := t.set at_ ((t[at_]?.getD 0) ^^^ by_)
def turnN (N : NetD) (n : Nat) (at_ : Nat) (by_ : UInt8) : NetD := match findG N.G n with
  | none => N
  | some g => ⟨setG N.G n ⟨g.id, g.whom, turnT g.text at_ by_⟩, N.last, N.lost⟩

theorem find_mem {G : List GramD} {n : Nat} {g : GramD} (h : findG G n = some g) : g ∈ G ∧ g.id = n := by
  unfold findG at h
  exact ⟨List.mem_of_find?_eq_some h, by simpa using List.find?_some h⟩
theorem Fine.put {N : NetD} (h : Fine N) (hf : N.G.length < 1024) (to_ t : List UInt8) : Fine (putN N to_ t) := by
  refine ⟨?_, ?_, by simp [putN]; omega⟩
  · unfold putN Rising
    rw [List.pairwise_append]
    exact ⟨h.rise, by simp, fun a ha b hb => by simp at hb; subst hb; have := h.low a ha; simp; omega⟩
  · intro g hg
    unfold putN at hg ⊢
    rcases List.mem_append.1 hg with hg | hg
    · have := h.low g hg; simp; omega
    · simp at hg; subst hg; simp
theorem Fine.send {N : NetD} (h : Fine N) (to_ t : List UInt8) : Fine (sendN N to_ t) := by
  unfold sendN
  split
  · exact h.put (by assumption) _ _
  · exact ⟨h.rise, h.low, h.few⟩
theorem Fine.drop {N : NetD} (h : Fine N) (n : Nat) : Fine (dropN N n) :=
  ⟨List.Pairwise.filter _ h.rise, fun g hg => h.low g (List.mem_filter.1 hg).1, Nat.le_trans (List.length_filter_le _ _) h.few⟩
theorem ids_set (G : List GramD) (n : Nat) (x : GramD) (hx : x.id = n) : (setG G n x).map GramD.id = G.map GramD.id := by
  unfold setG
  rw [List.map_map]
  refine List.map_congr_left fun g _ => ?_
  simp only [Function.comp]
  split
  · rename_i h
    rw [hx]
    simpa using (eq_of_beq h).symm
  · rfl
theorem Fine.turn {N : NetD} (h : Fine N) (n a : Nat) (y : UInt8) : Fine (turnN N n a y) := by
  unfold turnN
  cases hg : findG N.G n with
  | none => exact h
  | some g =>
    obtain ⟨h1, h2⟩ := find_mem hg
    have e := ids_set N.G n ⟨g.id, g.whom, turnT g.text a y⟩ h2
    have hr : (N.G.map GramD.id).Pairwise (· < ·) := by rw [List.pairwise_map]; exact h.rise
    have hl : ∀ i ∈ N.G.map GramD.id, 1 ≤ i ∧ i ≤ N.last := by
      intro i hi
      obtain ⟨x, hx, rfl⟩ := List.mem_map.1 hi
      exact h.low x hx
    refine ⟨?_, ?_, ?_⟩
    · unfold Rising
      show (setG N.G n _).Pairwise _
      rw [← e] at hr
      rw [List.pairwise_map] at hr
      exact hr
    · intro x hx
      rw [← e] at hl
      exact hl x.id (List.mem_map.2 ⟨x, hx, rfl⟩)
    · show (setG N.G n _).length ≤ 1024
      have := h.few
      simp [setG]; omega
theorem new_fine : Fine ⟨[], 0, 0⟩ := ⟨List.Pairwise.nil, fun _ h => by simp at h, by simp⟩
theorem sends_nil (to_ : List UInt8) (N : NetD) : sends to_ N [] = (N, 0) := rfl
theorem sends_snoc (to_ : List UInt8) (N : NetD) (ts : List (List UInt8)) (t : List UInt8) : sends to_ N (ts ++ [t]) = (sendN (sends to_ N ts).1 to_ t, (sends to_ N ts).2 + if (sends to_ N ts).1.G.length < 1024 then 1 else 0) := by
  unfold sends
  rw [List.foldl_append]
  rfl
theorem drops_snoc (N : NetD) (ns : List Nat) (n : Nat) : drops N (ns ++ [n]) = if (findG (drops N ns).1.G n).isSome then (dropN (drops N ns).1 n, (drops N ns).2 + 1) else drops N ns := by
  unfold drops
  rw [List.foldl_append]
  rfl
theorem sendN_last (N : NetD) (to_ t : List UInt8) : (sendN N to_ t).last ≤ N.last + 1 ∧ (sendN N to_ t).lost ≤ N.lost + 1 := by
  unfold sendN
  split <;> simp [putN]
theorem sends_from (to_ : List UInt8) (f : NetD × Nat → List UInt8 → NetD × Nat) (hf : f = fun S t => (sendN S.1 to_ t, S.2 + if S.1.G.length < 1024 then 1 else 0)) : ∀ (ts : List (List UInt8)) (S : NetD × Nat), Fine S.1 →
    Fine (ts.foldl f S).1 ∧ (ts.foldl f S).1.last ≤ S.1.last + ts.length ∧ (ts.foldl f S).1.lost ≤ S.1.lost + ts.length ∧ (ts.foldl f S).2 ≤ S.2 + ts.length
  | [], S, h => ⟨h, by simp, by simp, by simp⟩
  | t :: r, S, h => by
    have hl := sendN_last S.1 to_ t
    obtain ⟨h1, h2, h3, h4⟩ := sends_from to_ f hf r (f S t) (by rw [hf]; exact h.send to_ t)
    have e1 : (f S t).1 = sendN S.1 to_ t := by rw [hf]
    have e2 : (f S t).2 ≤ S.2 + 1 := by rw [hf]; show S.2 + _ ≤ _; split <;> omega
    rw [e1] at h2 h3
    refine ⟨h1, ?_, ?_, ?_⟩ <;> simp only [List.foldl_cons, List.length_cons] <;> omega
theorem sends_fine {N : NetD} (h : Fine N) (to_ : List UInt8) (ts : List (List UInt8)) : Fine (sends to_ N ts).1 ∧ (sends to_ N ts).1.last ≤ N.last + ts.length ∧ (sends to_ N ts).1.lost ≤ N.lost + ts.length ∧ (sends to_ N ts).2 ≤ ts.length := by
  have := sends_from to_ _ rfl ts (N, 0) h
  simpa [sends] using this
theorem drops_from (f : NetD × Nat → Nat → NetD × Nat) (hf : f = fun S n => if (findG S.1.G n).isSome then (dropN S.1 n, S.2 + 1) else S) : ∀ (ns : List Nat) (S : NetD × Nat), Fine S.1 →
    Fine (ns.foldl f S).1 ∧ (ns.foldl f S).1.last = S.1.last ∧ (ns.foldl f S).1.lost = S.1.lost ∧ (ns.foldl f S).2 ≤ S.2 + ns.length
  | [], S, h => ⟨h, rfl, rfl, by simp⟩
  | n :: r, S, h => by
    have hs : Fine (f S n).1 ∧ (f S n).1.last = S.1.last ∧ (f S n).1.lost = S.1.lost ∧ (f S n).2 ≤ S.2 + 1 := by
      have e : f S n = if (findG S.1.G n).isSome then (dropN S.1 n, S.2 + 1) else S := by rw [hf]
      rw [e]
      split
      · exact ⟨h.drop n, rfl, rfl, Nat.le_refl _⟩
      · exact ⟨h, rfl, rfl, by omega⟩
    obtain ⟨h1, h2, h3, h4⟩ := drops_from f hf r (f S n) hs.1
    refine ⟨h1, h2.trans hs.2.1, h3.trans hs.2.2.1, ?_⟩
    have := hs.2.2.2
    simp only [List.foldl_cons, List.length_cons]
    omega
theorem drops_fine {N : NetD} (h : Fine N) (ns : List Nat) : Fine (drops N ns).1 ∧ (drops N ns).1.last = N.last ∧ (drops N ns).1.lost = N.lost ∧ (drops N ns).2 ≤ ns.length := by
  have := drops_from _ rfl ns (N, 0) h
  simpa [drops] using this
end Go.Proofs.Ytplfnjpoikhmbaa.Nt
