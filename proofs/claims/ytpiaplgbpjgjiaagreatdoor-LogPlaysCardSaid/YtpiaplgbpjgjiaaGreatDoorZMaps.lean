/-
  Maps of the call's own, whatever their elements: a block that is the map of a list of entries (keys as literals, rising; elements as values), and what look-ups, stores, deletes, len, range do to that list. No program in sight but the model's own.
-/
import Derived.Maps.RangeWalk
import Derived.Maps.Ext
import Derived.Test.YtpiaplgbpjgjiaaGreatDoorZBase
open Go Go.RowKit
namespace Go.Proofs.YtpiaplgbpjgjiaaGreatDoor.Mp

/-- An element reads as itself. -/
def HV (v : Value) : Option (DataW Value × List MemPlace) := some (.held v, [])
def hv (p : Lit × Value) : Lit × DataW Value := (p.1, .held p.2)
/-- Block b of w is the map with these entries. -/
def MapL (P : Program) (k : TypeId) (w : World) (b : Nat) (es : List (Lit × Value)) : Prop := w.ownsMap P k HV b es.length (.map (es.map hv))
section
variable {α : Type}
def insL (x : Lit × α) : List (Lit × α) → List (Lit × α)
  | [] => [x]
  | y :: r => if x.1.before y.1 then x :: y :: r else y :: insL x r
def delL (es : List (Lit × α)) (k : Lit) : List (Lit × α) := es.filter fun p => !p.1.sameKey k
def putL (es : List (Lit × α)) (k : Lit) (v : α) : List (Lit × α) := insL (k, v) (delL es k)
def lookL (es : List (Lit × α)) (k : Lit) : Option α := (es.find? fun p => p.1.sameKey k).map (·.2)
/-- Another value at a key, in its place. -/
def setL (es : List (Lit × α)) (k : Lit) (v : α) : List (Lit × α) := es.map fun p => if p.1.sameKey k then (p.1, v) else p
def hasL (es : List (Lit × α)) (k : Lit) : Bool := es.any fun p => p.1.sameKey k
end

theorem insert_hv (x : Lit × Value) : ∀ es : List (Lit × Value), DataW.insert (hv x) (es.map hv) = (insL x es).map hv
  | [] => rfl
  | y :: r => by
    simp only [List.map_cons, DataW.insert, insL]
    show (if x.1.before y.1 then _ else _) = _
    split
    · rfl
    · rw [insert_hv x r]; rfl
theorem del_hv (es : List (Lit × Value)) (k : Lit) : (es.map hv).filter (fun p => !p.1.sameKey k) = (delL es k).map hv := by
  rw [List.filter_map]; rfl
theorem put_hv (es : List (Lit × Value)) (k : Lit) (v : Value) : (DataW.map (es.map hv)).put k (.held v) = .map ((putL es k v).map hv) := by
  show DataW.map (DataW.insert (k, .held v) ((es.map hv).filter fun p => !p.1.sameKey k)) = _
  rw [del_hv, show ((k, DataW.held v) : Lit × DataW Value) = hv (k, v) from rfl, insert_hv]; rfl
theorem del_hv' (es : List (Lit × Value)) (k : Lit) : (DataW.map (es.map hv)).del k = .map ((delL es k).map hv) := by
  show DataW.map ((es.map hv).filter fun p => !p.1.sameKey k) = _
  rw [del_hv]
theorem atKey_hv (es : List (Lit × Value)) (k : Lit) (z : Value) : (DataW.map (es.map hv)).atKey k (.held z) = .held ((lookL es k).getD z) := by
  unfold lookL DataW.atKey
  simp only [List.find?_map]
  rw [show ((fun p : Lit × DataW Value => p.1.sameKey k) ∘ hv) = (fun p : Lit × Value => p.1.sameKey k) from rfl]
  cases es.find? (fun p => p.1.sameKey k) <;> rfl
theorem has_hv (es : List (Lit × Value)) (k : Lit) : Maps.has (DataW.map (es.map hv)) k = hasL es k := by
  rw [Maps.has_eq, List.any_map]; rfl
theorem size_hv (es : List (Lit × Value)) : Maps.size (DataW.map (es.map hv)) = es.length := by rw [Maps.size_eq, List.length_map]
theorem hasL_look {α : Type} (es : List (Lit × α)) (k : Lit) : hasL es k = (lookL es k).isSome := by
  unfold hasL lookL
  rw [Option.isSome_map, List.isSome_find?]

section
variable {P : Program} {k e t : TypeId} {w : World} {b : Nat} {es : List (Lit × Value)}
theorem exact {n : Nat} (h : w.ownsMap P k HV b n (.map (es.map hv))) : MapL P k w b es := by
  obtain ⟨xs, clock, hb, F, hs, hD⟩ := h
  refine ⟨xs, clock, hb, F, ?_, hD⟩
  have h1 := congrArg Maps.size hD
  rw [size_hv, Maps.size_eq, length_sorted, List.length_map] at h1
  simp at h1
  omega
theorem made (w : World) (P : Program) (k : TypeId) : MapL P k (w.alloc (.map #[] 0)) w.heap.size [] := World.ownsMap_made w P k HV
theorem MapL.kept {w' : World} {row : Option Nat} (h : MapL P k w b es) (hg : w.grownBy w' row) (hne : some b ≠ row) : MapL P k w' b es := World.ownsMap.kept h hg hne
theorem MapL.lt (h : MapL P k w b es) : b < w.heap.size := World.ownsMap.lt h
theorem MapL.below {w' : World} {K : Nat} (h : MapL P k w b es) (hb : Below K w w') (hK : b < K) : MapL P k w' b es := by
  obtain ⟨xs, clock, hh, r⟩ := h
  exact ⟨xs, clock, (hb.block b hK).trans hh, r⟩
theorem MapL.next {w' : World} (h : MapL P k w b es) (hb : Below w.heap.size w w') : MapL P k w' b es := h.below hb h.lt
theorem MapL.setCell (h : MapL P k w b es) {a : Addr} (ha : b ≠ a.block) (u : Value) : MapL P k (w.setCell a u) b es := World.ownsMap.setCell h ha u
theorem MapL.drewN (h : MapL P k w b es) (n : Nat) : MapL P k (w.drewN n) b es := h
theorem MapL.keys (h : MapL P k w b es) (K : Maps.Keyed P k) : (es.Pairwise fun p q => p.1 ≠ q.1) ∧ ∀ p ∈ es, WideAt.IsKeyLit p.1 := by
  obtain ⟨xs, hx, hp, hk⟩ := World.ownsMap.entries h K
  injection hx with hx
  subst hx
  refine ⟨?_, fun p hp' => hk (hv p) (List.mem_map.2 ⟨p, hp', rfl⟩)⟩
  rw [List.pairwise_map] at hp
  exact hp
theorem MapL.look (h : MapL P k w b es) (K : Maps.Keyed P k) (ht : P.underlying t = some (.map k e)) {z : Value} (hz : (zeroValue e).run P w = .ok z w) {key : Value} {kl : Lit} (hkey : keyOf P k key = some kl) :
    (Instr.lookup t (.map (some b)) key false).run P w = .ok ((lookL es kl).getD z) w := by
  obtain ⟨v, ps, hrun, hR⟩ := World.ownsMap.lookup h K ht hz (zd := .held z) (zp := []) rfl hkey
  rw [atKey_hv] at hR
  have : v = (lookL es kl).getD z := by
    have := (Prod.mk.inj (Option.some.inj hR)).1
    injection this
  rw [hrun, this]
theorem MapL.look_ok (h : MapL P k w b es) (K : Maps.Keyed P k) (ht : P.underlying t = some (.map k e)) {z : Value} (hz : (zeroValue e).run P w = .ok z w) {key : Value} {kl : Lit} (hkey : keyOf P k key = some kl) :
    (Instr.lookup t (.map (some b)) key true).run P w = .ok (.tuple #[(lookL es kl).getD z, .bool (lookL es kl).isSome]) w := by
  obtain ⟨v, ps, hrun, hR⟩ := World.ownsMap.look_ok h K ht hz (zd := .held z) (zp := []) rfl hkey
  rw [atKey_hv] at hR
  have : v = (lookL es kl).getD z := by
    have := (Prod.mk.inj (Option.some.inj hR)).1
    injection this
  rw [hrun, this, has_hv, hasL_look]
theorem MapL.len (h : MapL P k w b es) (ht : P.underlying t = some (.map k e)) (ty : TypeId) : (Builtin.len_ #[t] ty #[.map (some b)]).run P w = .ok (.int .i64 (es.length : Nat)) w := by
  have := World.ownsMap.len h ht ty
  rw [size_hv] at this
  exact this
theorem MapL.store (h : MapL P k w b es) (K : Maps.Keyed P k) (ht : P.underlying t = some (.map k e)) (hn : es.length < maxLen) {key val : Value} {kl : Lit} (hkey : keyOf P k key = some kl) :
    ∃ w', (Instr.mapUpdate t (.map (some b)) key val).run P w = .ok () w' ∧ MapL P k w' b (putL es kl val) ∧ w.mapTurned w' b := by
  obtain ⟨w', hrun, hown, ht⟩ := World.ownsMap.store h K ht hn hkey (val := val) (d := .held val) (ps := []) rfl
  rw [put_hv] at hown
  exact ⟨w', hrun, exact hown, ht⟩
theorem MapL.drop (h : MapL P k w b es) (K : Maps.Keyed P k) (ht : P.underlying t = some (.map k e)) {key : Value} {kl : Lit} (hkey : keyOf P k key = some kl) (ty : TypeId) :
    ∃ w', (Builtin.delete_ #[t, k] ty #[.map (some b), key]).run P w = .ok (.tuple #[]) w' ∧ MapL P k w' b (delL es kl) ∧ w.mapTurned w' b := by
  obtain ⟨w', hrun, hown, ht⟩ := World.ownsMap.drop h K ht hkey ty
  rw [del_hv'] at hown
  exact ⟨w', hrun, exact hown, ht⟩
end

/-! ### The list of entries -/
section
variable {α : Type}
theorem look_del_same (es : List (Lit × α)) (k : Lit) : lookL (delL es k) k = none := by
  unfold lookL delL
  rw [List.find?_eq_none.2]
  · rfl
  · intro p hp
    have := (List.mem_filter.1 hp).2
    simpa using this
theorem look_del_other (es : List (Lit × α)) (k q : Lit) (h : q ≠ k) : lookL (delL es k) q = lookL es q := by
  unfold lookL delL
  rw [Maps.find_filter_keep]
  intro p hp
  cases hs : p.1.sameKey k
  · rfl
  · exact absurd ((WideAt.sameKey_eq hp).symm.trans (WideAt.sameKey_eq hs)) h
theorem look_ins_hit (x : Lit × α) (q : Lit) (hx : x.1.sameKey q = true) : ∀ es : List (Lit × α), (∀ p ∈ es, p.1.sameKey q = false) → (insL x es).find? (fun p => p.1.sameKey q) = some x
  | [], _ => by simp [insL, hx]
  | y :: r, h => by
    unfold insL
    split
    · simp [hx]
    · rw [List.find?_cons, h y (by simp)]
      exact look_ins_hit x q hx r (fun p hp => h p (by simp [hp]))
theorem look_ins_miss (x : Lit × α) (q : Lit) (hx : x.1.sameKey q = false) : ∀ es : List (Lit × α), (insL x es).find? (fun p => p.1.sameKey q) = es.find? fun p => p.1.sameKey q
  | [] => by simp [insL, hx]
  | y :: r => by
    unfold insL
    split
    · simp [hx]
    · rw [List.find?_cons, List.find?_cons, look_ins_miss x q hx r]
theorem look_put_same (es : List (Lit × α)) (k : Lit) (hk : WideAt.IsKeyLit k) (v : α) : lookL (putL es k v) k = some v := by
  unfold lookL putL
  rw [look_ins_hit (k, v) k (WideAt.sameKey_self hk)]
  · rfl
  · intro p hp
    have := (List.mem_filter.1 hp).2
    simpa using this
theorem look_put_other (es : List (Lit × α)) (k q : Lit) (h : q ≠ k) (v : α) : lookL (putL es k v) q = lookL es q := by
  rw [← look_del_other es k q h]
  unfold lookL putL
  rw [look_ins_miss]
  cases hs : ((k, v) : Lit × α).1.sameKey q
  · rfl
  · exact absurd (WideAt.sameKey_eq hs).symm h
theorem mem_ins (x p : Lit × α) : ∀ es : List (Lit × α), p ∈ insL x es ↔ p = x ∨ p ∈ es
  | [] => by simp [insL]
  | y :: r => by
    unfold insL
    split
    · simp
    · simp only [List.mem_cons, mem_ins x p r]
      constructor
      · rintro (h | h | h)
        · exact .inr (.inl h)
        · exact .inl h
        · exact .inr (.inr h)
      · rintro (h | h | h)
        · exact .inr (.inl h)
        · exact .inl h
        · exact .inr (.inr h)
theorem ins_perm (x : Lit × α) : ∀ es : List (Lit × α), (insL x es).Perm (x :: es)
  | [] => .refl _
  | y :: r => by
    unfold insL
    split
    · exact .refl _
    · exact ((ins_perm x r).cons y).trans (.swap x y r)
theorem put_perm (es : List (Lit × α)) (k : Lit) (v : α) : (putL es k v).Perm ((k, v) :: delL es k) := ins_perm _ _
theorem del_none (es : List (Lit × α)) (k : Lit) (h : lookL es k = none) : delL es k = es := by
  unfold delL
  rw [List.filter_eq_self]
  intro p hp
  unfold lookL at h
  rw [Option.map_eq_none_iff, List.find?_eq_none] at h
  simpa using h p hp
theorem put_length_new (es : List (Lit × α)) (k : Lit) (v : α) (h : lookL es k = none) : (putL es k v).length = es.length + 1 := by
  rw [(put_perm es k v).length_eq, del_none es k h]; rfl
theorem mem_of_look {es : List (Lit × α)} {k : Lit} {v : α} (h : lookL es k = some v) : (k, v) ∈ es := by
  unfold lookL at h
  obtain ⟨p, hp, rfl⟩ := Option.map_eq_some_iff.1 h
  have h1 := List.mem_of_find?_eq_some hp
  have h2 := List.find?_some hp
  have := WideAt.sameKey_eq h2
  subst this
  exact h1
theorem look_of_mem {es : List (Lit × α)} {k : Lit} {v : α} (hn : es.Pairwise fun p q => p.1 ≠ q.1) (hk : WideAt.IsKeyLit k) (h : (k, v) ∈ es) : lookL es k = some v := by
  induction es with
  | nil => simp at h
  | cons y r ih =>
    obtain ⟨h1, h2⟩ := List.pairwise_cons.1 hn
    unfold lookL
    rw [List.find?_cons]
    rcases List.mem_cons.1 h with h | h
    · subst h
      rw [show ((k, v) : Lit × α).1.sameKey k = true from WideAt.sameKey_self hk]; rfl
    · cases hs : y.1.sameKey k
      · exact ih h2 h
      · exact absurd (WideAt.sameKey_eq hs) (h1 _ h)
/-- The entries but one, where the key is there. -/
theorem del_perm (es : List (Lit × α)) (k : Lit) (v : α) (hn : es.Pairwise fun p q => p.1 ≠ q.1) (h : lookL es k = some v) : es.Perm ((k, v) :: delL es k) := by
  induction es with
  | nil => simp [lookL] at h
  | cons y r ih =>
    obtain ⟨h1, h2⟩ := List.pairwise_cons.1 hn
    unfold delL
    cases hs : y.1.sameKey k
    · have hr : lookL r k = some v := by
        unfold lookL at h ⊢
        rw [List.find?_cons, hs] at h
        exact h
      rw [List.filter_cons, hs]
      exact ((ih h2 hr).cons y).trans (.swap _ _ _)
    · have hy : y = (k, v) := by
        unfold lookL at h
        rw [List.find?_cons, hs] at h
        have e1 := WideAt.sameKey_eq hs
        have e2 : y.2 = v := by simpa using h
        cases y
        simp at e1 e2
        rw [e1, e2]
      rw [List.filter_cons, hs]
      have hr : lookL r k = none := by
        unfold lookL
        rw [Option.map_eq_none_iff, List.find?_eq_none]
        intro p hp hpk
        exact h1 p hp ((WideAt.sameKey_eq hs).trans (WideAt.sameKey_eq hpk).symm)
      have := del_none r k hr
      unfold delL at this
      simp only [Bool.not_true, Bool.false_eq_true, if_false]
      rw [this, hy]
theorem del_length (es : List (Lit × α)) (k : Lit) (v : α) (hn : es.Pairwise fun p q => p.1 ≠ q.1) (h : lookL es k = some v) : (delL es k).length + 1 = es.length := by
  rw [(del_perm es k v hn h).length_eq]; rfl
end

section
variable {α : Type}
theorem look_set_same (es : List (Lit × α)) (k : Lit) (v u : α) (h : lookL es k = some u) : lookL (setL es k v) k = some v := by
  induction es with
  | nil => simp [lookL] at h
  | cons y r ih =>
    unfold lookL at h ⊢
    unfold setL
    rw [List.map_cons, List.find?_cons]
    rw [List.find?_cons] at h
    cases hs : y.1.sameKey k
    · rw [hs] at h
      simp only [hs, Bool.false_eq_true, if_false]
      exact ih h
    · simp [hs]
theorem look_set_other (es : List (Lit × α)) (k q : Lit) (v : α) (hq : q ≠ k) : lookL (setL es k v) q = lookL es q := by
  induction es with
  | nil => rfl
  | cons y r ih =>
    unfold lookL at ih ⊢
    unfold setL at ih ⊢
    rw [List.map_cons, List.find?_cons, List.find?_cons]
    cases hs : y.1.sameKey k
    · simp only [Bool.false_eq_true, if_false]
      cases hq2 : y.1.sameKey q
      · exact ih
      · rfl
    · simp only [if_true]
      cases hq2 : y.1.sameKey q
      · exact ih
      · exact absurd ((WideAt.sameKey_eq hq2).symm.trans (WideAt.sameKey_eq hs)) hq
theorem set_length (es : List (Lit × α)) (k : Lit) (v : α) : (setL es k v).length = es.length := by simp [setL]
theorem mem_set {es : List (Lit × α)} {k : Lit} {v : α} {p : Lit × α} (h : p ∈ setL es k v) : (p ∈ es ∧ p.1.sameKey k = false) ∨ (p.1 = k ∧ p.2 = v) := by
  unfold setL at h
  obtain ⟨q, hq, he⟩ := List.mem_map.1 h
  cases hs : q.1.sameKey k
  · rw [hs] at he
    simp only [Bool.false_eq_true, if_false] at he
    subst he
    exact .inl ⟨hq, hs⟩
  · rw [hs] at he
    simp only [if_true] at he
    subst he
    exact .inr ⟨WideAt.sameKey_eq hs, rfl⟩
theorem set_same (es : List (Lit × α)) (k : Lit) (v : α) (hn : es.Pairwise fun p q => p.1 ≠ q.1) (h : lookL es k = some v) : setL es k v = es := by
  induction es with
  | nil => rfl
  | cons y r ih =>
    obtain ⟨h1, h2⟩ := List.pairwise_cons.1 hn
    unfold lookL at h
    rw [List.find?_cons] at h
    unfold setL
    rw [List.map_cons]
    cases hs : y.1.sameKey k
    · rw [hs] at h
      simp only [Bool.false_eq_true, if_false]
      congr 1
      exact ih h2 h
    · rw [hs] at h
      have hv : y.2 = v := by simpa using h
      simp only [if_true]
      have hr : r.map (fun p => if p.1.sameKey k then (p.1, v) else p) = r := by
        conv => rhs; rw [← List.map_id r]
        refine List.map_congr_left fun p hp => ?_
        have : p.1.sameKey k = false := by
          cases hq : p.1.sameKey k
          · rfl
          · exact absurd ((WideAt.sameKey_eq hs).trans (WideAt.sameKey_eq hq).symm) (h1 p hp)
        rw [this]; rfl
      rw [hr, ← hv]
theorem del_set (es : List (Lit × α)) (k : Lit) (v : α) : delL (setL es k v) k = delL es k := by
  induction es with
  | nil => rfl
  | cons y r ih =>
    unfold delL setL at ih ⊢
    rw [List.map_cons, List.filter_cons, List.filter_cons, ih]
    cases hs : y.1.sameKey k <;> simp [hs]
theorem mem_del {es : List (Lit × α)} {k : Lit} {p : Lit × α} (h : p ∈ delL es k) : p ∈ es ∧ p.1.sameKey k = false := by
  have := List.mem_filter.1 h
  exact ⟨this.1, by simpa using this.2⟩
theorem del_le (es : List (Lit × α)) (k : Lit) : (delL es k).length ≤ es.length := List.length_filter_le _ _
theorem mem_put {es : List (Lit × α)} {k : Lit} {v : α} {p : Lit × α} (h : p ∈ putL es k v) : p = (k, v) ∨ (p ∈ es ∧ p.1.sameKey k = false) := by
  rcases (mem_ins _ _ _).1 h with h | h
  · exact .inl h
  · exact .inr (mem_del h)
end

/-! ### Two lists of entries with the same keys -/
section
variable {α β : Type} (f : Lit → α → β)
def mapE (es : List (Lit × α)) : List (Lit × β) := es.map fun p => (p.1, f p.1 p.2)
theorem mapE_ins (k : Lit) (v : α) : ∀ es : List (Lit × α), insL (k, f k v) (mapE f es) = mapE f (insL (k, v) es)
  | [] => rfl
  | y :: r => by
    have ih := mapE_ins k v r
    simp only [mapE, List.map_cons, insL] at ih ⊢
    split
    · rfl
    · rw [ih]; rfl
theorem mapE_del (es : List (Lit × α)) (k : Lit) : delL (mapE f es) k = mapE f (delL es k) := by
  unfold delL mapE
  rw [List.filter_map]; rfl
theorem mapE_put (es : List (Lit × α)) (k : Lit) (v : α) : putL (mapE f es) k (f k v) = mapE f (putL es k v) := by
  unfold putL
  rw [mapE_del, mapE_ins]
theorem mapE_look (es : List (Lit × α)) (k : Lit) : lookL (mapE f es) k = (lookL es k).map (f k) := by
  unfold lookL mapE
  rw [List.find?_map]
  show Option.map _ (Option.map _ (es.find? fun p => p.1.sameKey k)) = _
  cases h : es.find? (fun p => p.1.sameKey k) with
  | none => rfl
  | some p =>
    have h2 : p.1.sameKey k = true := by simpa using List.find?_some (p := fun p : Lit × α => p.1.sameKey k) h
    have := WideAt.sameKey_eq h2
    simp [← this]
theorem mapE_set (g : Lit → β) (es : List (Lit × α)) (k : Lit) (v : α) : mapE (fun q (_ : α) => g q) (setL es k v) = mapE (fun q _ => g q) es := by
  unfold mapE setL
  rw [List.map_map]
  refine List.map_congr_left fun p _ => ?_
  simp only [Function.comp]
  split <;> rfl
theorem mapE_length (es : List (Lit × α)) : (mapE f es).length = es.length := by simp [mapE]
theorem mapE_congr (g : Lit → α → β) (es : List (Lit × α)) (h : ∀ p ∈ es, f p.1 p.2 = g p.1 p.2) : mapE f es = mapE g es := by
  unfold mapE
  exact List.map_congr_left fun p hp => by rw [h p hp]
end
end Go.Proofs.YtpiaplgbpjgjiaaGreatDoor.Mp
