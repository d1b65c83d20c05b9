/-
  NetOnce (layer 30), plain: how many messages of a receiver and text are under way; what the law's two maps of counts hold, and what each kind of step does to that. Maps of counts in memory. No condition.
-/
import Derived.Test.YtplfnjpoikhmbaaNtStep
open Go Go.RowKit
namespace Go.Proofs.Ytplfnjpoikhmbaa.Nt
open Base Mp

def keyB (to_ t : List UInt8) : List UInt8 := to_ ++ 0 :: t
def keyG (g : GramD) : List UInt8 := keyB g.whom g.text
def cnt (G : List GramD) (K : List UInt8) : Nat := G.countP fun g => keyG g == K
def updF {α : Type} [DecidableEq α] (f : α → Int) (K : α) (x : Int) : α → Int := fun q => if q = K then x else f q
/-- How often the messages numbered n among the first j have this key. -/
def bumpF (f : List UInt8 → Int) (G : List GramD) (n j : Nat) : List UInt8 → Int := fun K => f K + (cnt ((G.take j).filter fun g => g.id == n) K : Int)
theorem bump_zero (f : List UInt8 → Int) (G : List GramD) (n : Nat) : bumpF f G n 0 = f := by
  funext K
  simp [bumpF, cnt]
theorem bump_hit (f : List UInt8 → Int) (G : List GramD) (n j : Nat) (hj : j < G.length) (h : G[j].id = n) : bumpF f G n (j + 1) = updF (bumpF f G n j) (keyG G[j]) (bumpF f G n j (keyG G[j]) + 1) := by
  funext K
  unfold bumpF updF cnt
  rw [List.take_succ_eq_append_getElem hj, List.filter_append, List.countP_append]
  have e : List.filter (fun g : GramD => g.id == n) [G[j]] = [G[j]] := by simp [h]
  rw [e]
  by_cases hK : K = keyG G[j]
  · subst hK
    rw [if_pos rfl, List.countP_cons, List.countP_nil, if_pos (by simp)]
    omega
  · rw [if_neg hK, List.countP_cons, List.countP_nil, if_neg (by simpa using fun e => hK e.symm)]
    dsimp only
    rfl
theorem bump_miss (f : List UInt8 → Int) (G : List GramD) (n j : Nat) (hj : j < G.length) (h : G[j].id ≠ n) : bumpF f G n (j + 1) = bumpF f G n j := by
  funext K
  unfold bumpF
  rw [List.take_succ_eq_append_getElem hj, List.filter_append]
  have e : List.filter (fun g : GramD => g.id == n) [G[j]] = [] := by simp [h]
  rw [e, List.append_nil]
theorem cnt_le (G : List GramD) (K : List UInt8) : cnt G K ≤ G.length := List.countP_le_length
theorem cnt_filter (G : List GramD) (p : GramD → Bool) (K : List UInt8) : cnt (G.filter p) K ≤ cnt G K := List.Sublist.countP_le List.filter_sublist
theorem bump_low (f : List UInt8 → Int) (G : List GramD) (n j : Nat) (K : List UInt8) : f K ≤ bumpF f G n j K ∧ bumpF f G n j K ≤ f K + j := by
  unfold bumpF
  have h1 := cnt_filter (G.take j) (fun g => g.id == n) K
  have h2 := cnt_le (G.take j) K
  rw [List.length_take] at h2
  omega

structure Inv (i : Nat) (N : NetD) (f : List UInt8 → Int) (g : Nat → Int) : Prop where
  fine : Fine N
  last : N.last ≤ i
  lost : N.lost ≤ i
  lens : ∀ x ∈ N.G, x.whom.length ≤ 140737488351232 ∧ x.text.length ≤ 140737488351232
  made : ∀ K, (cnt N.G K : Int) ≤ f K ∧ f K ≤ (i : Int) * 2000
  seen : ∀ n, ((∃ x ∈ N.G, x.id = n) ∨ N.last < n) → g n = 0
theorem Inv.first : Inv 0 ⟨[], 0, 0⟩ (fun _ => 0) (fun _ => 0) := ⟨new_fine, Nat.le_refl _, Nat.le_refl _, fun x hx => by simp at hx, fun K => by simp [cnt], fun _ _ => rfl⟩
section
variable {i : Nat} {N : NetD} {f : List UInt8 → Int} {g : Nat → Int}
theorem Inv.more (h : Inv i N f g) : Inv (i + 1) N f g := ⟨h.fine, by have := h.last; omega, by have := h.lost; omega, h.lens, fun K => by have := h.made K; omega, h.seen⟩
theorem cnt_put (G : List GramD) (a : Nat) (x y K : List UInt8) : cnt (G ++ [⟨a, x, y⟩]) K = cnt G K + if keyB x y = K then 1 else 0 := by
  unfold cnt
  rw [List.countP_append, List.countP_cons, List.countP_nil]
  by_cases h : keyB x y = K
  · rw [if_pos h, if_pos (by simpa [keyG] using h)]
  · rw [if_neg h, if_neg (by simpa [keyG] using h)]
theorem Inv.put (h : Inv i N f g) (hf : N.G.length < 1024) {x y : List UInt8} (hx : x.length ≤ 140737488351232) (hy : y.length ≤ 140737488351232) {f' : List UInt8 → Int} (hm : ∀ K, f K + (if keyB x y = K then 1 else 0) ≤ f' K ∧ f' K ≤ ((i : Int) + 1) * 2000) : Inv (i + 1) (putN N x y) f' g := by
  refine ⟨h.fine.put hf x y, by have := h.last; simp [putN]; omega, by have := h.lost; simp [putN]; omega, ?_, ?_, ?_⟩
  · intro z hz
    rcases List.mem_append.1 hz with hz | hz
    · exact h.lens z hz
    · simp at hz
      subst hz
      exact ⟨hx, hy⟩
  · intro K
    have e : cnt (putN N x y).G K = cnt N.G K + if keyB x y = K then 1 else 0 := cnt_put _ _ _ _ _
    rw [e]
    have h1 := h.made K
    have h2 := hm K
    split at h2 <;> rename_i hk
    · rw [if_pos hk]; omega
    · rw [if_neg hk]; omega
  · intro n hn
    refine h.seen n ?_
    rcases hn with ⟨z, hz, rfl⟩ | hn
    · rcases List.mem_append.1 hz with hz | hz
      · exact .inl ⟨z, hz, rfl⟩
      · simp at hz
        subst hz
        exact .inr (by simp)
    · exact .inr (by have : N.last + 1 < n := hn; omega)
theorem Inv.send (h : Inv i N f g) {x y : List UInt8} (hx : x.length ≤ 140737488351232) (hy : y.length ≤ 140737488351232) : Inv (i + 1) (sends x N [y]).1 (updF f (keyB x y) (f (keyB x y) + 1)) g := by
  have hm : ∀ K, f K + (if keyB x y = K then 1 else 0) ≤ updF f (keyB x y) (f (keyB x y) + 1) K ∧ updF f (keyB x y) (f (keyB x y) + 1) K ≤ ((i : Int) + 1) * 2000 := by
    intro K
    have h1 := h.made K
    unfold updF
    by_cases hk : keyB x y = K
    · subst hk
      rw [if_pos rfl, if_pos rfl]
      omega
    · rw [if_neg hk, if_neg (fun e => hk e.symm)]
      omega
  show Inv (i + 1) (sendN N x y) _ g
  unfold sendN
  split
  · rename_i hf
    exact h.put hf hx hy hm
  · have h2 := h.more
    exact ⟨⟨h.fine.rise, h.fine.low, h.fine.few⟩, h2.last, by have := h.lost; show N.lost + 1 ≤ i + 1; omega, h.lens, fun K => by
      have h3 := h.made K
      have h4 := hm K
      show (cnt N.G K : Int) ≤ _ ∧ _ ≤ ((i + 1 : Nat) : Int) * 2000
      split at h4 <;> omega, h.seen⟩
theorem Inv.double (h : Inv i N f g) (n : Nat) {x : GramD} (hx : findG N.G n = some x) (hf : N.G.length < 1024) : Inv (i + 1) (putN N x.whom x.text) (bumpF f N.G n N.G.length) g := by
  obtain ⟨hm, hid⟩ := find_mem hx
  have hl := h.lens x hm
  refine h.put hf hl.1 hl.2 fun K => ⟨?_, ?_⟩
  · unfold bumpF
    rw [List.take_length]
    split
    · rename_i hk
      have : 0 < cnt (N.G.filter fun g => g.id == n) K := List.countP_pos_iff.2 ⟨x, List.mem_filter.2 ⟨hm, by simp [hid]⟩, by simpa [keyG] using hk⟩
      omega
    · omega
  · have h1 := h.made K
    have h2 := bump_low f N.G n N.G.length K
    omega
theorem Inv.drop (h : Inv i N f g) (n : Nat) : Inv i (dropN N n) f g := by
  refine ⟨h.fine.drop n, h.last, h.lost, fun z hz => h.lens z (List.mem_filter.1 hz).1, fun K => ⟨?_, (h.made K).2⟩, fun m hm => h.seen m ?_⟩
  · have h1 := cnt_filter N.G (fun g => !(g.id == n)) K
    have h2 := (h.made K).1
    have h3 : cnt (dropN N n).G K ≤ cnt N.G K := h1
    omega
  · rcases hm with ⟨z, hz, rfl⟩ | hm
    · exact .inl ⟨z, (List.mem_filter.1 hz).1, rfl⟩
    · exact .inr hm
theorem Inv.drops (h : Inv i N f g) (a b : Nat) : Inv (i + 1) (drops N [a, b]).1 f g := by
  refine Inv.more ?_
  have one : ∀ (S : NetD × Nat) (n : Nat), Inv i S.1 f g → Inv i (if (findG S.1.G n).isSome then (dropN S.1 n, S.2 + 1) else S).1 f g := fun S n hS => by
    split
    · exact hS.drop n
    · exact hS
  exact one _ b (one (N, 0) a h)
theorem Inv.take (h : Inv i N f g) (n : Nat) {x : GramD} (hx : findG N.G n = some x) : Inv (i + 1) (dropN N n) (updF f (keyG x) (f (keyG x) - 1)) (updF g n 1) ∧ 0 ≤ f (keyG x) - 1 ∧ g n = 0 := by
  obtain ⟨hm, hid⟩ := find_mem hx
  have h2 := (h.drop n).more
  have key : ∀ K, keyG x = K → cnt (dropG N.G n) K + 1 ≤ cnt N.G K := by
    intro K hk
    have e : cnt N.G K = cnt (N.G.filter fun g => g.id == n) K + cnt (N.G.filter fun g => !(g.id == n)) K := by
      unfold cnt
      rw [List.countP_filter, List.countP_filter, List.countP_eq_countP_filter_add N.G _ (fun g => g.id == n), List.countP_filter, List.countP_filter]
    have : 0 < cnt (N.G.filter fun g => g.id == n) K := List.countP_pos_iff.2 ⟨x, List.mem_filter.2 ⟨hm, by simp [hid]⟩, by simpa using hk⟩
    have e2 : cnt (dropG N.G n) K = cnt (N.G.filter fun g => !(g.id == n)) K := rfl
    omega
  refine ⟨⟨h2.fine, h2.last, h2.lost, h2.lens, fun K => ?_, fun m hm2 => ?_⟩, ?_, h.seen n (.inl ⟨x, hm, hid⟩)⟩
  · have h3 := h2.made K
    unfold updF
    split
    · rename_i hk
      subst hk
      have h4 := key (keyG x) rfl
      have h5 := h.made (keyG x)
      show (cnt (dropG N.G n) (keyG x) : Int) ≤ _ ∧ _
      omega
    · exact h3
  · unfold updF
    split
    · rename_i hk
      subst hk
      exfalso
      rcases hm2 with ⟨z, hz, hz2⟩ | hm2
      · have := (List.mem_filter.1 hz).2
        simp [hz2] at this
      · have h6 := h.fine.low x hm
        have h7 : N.last < m := hm2
        omega
    · exact h2.seen m hm2
  · have h4 := key (keyG x) rfl
    have h5 := (h.made (keyG x)).1
    omega
end

/-! ### A map of counts in memory -/
def Tally {α : Type} (k : TypeId) (kap : α → Lit) (w : World) (b : Nat) (f : α → Int) (n : Nat) : Prop := ∃ es, MapL Try.prog k w b es ∧ es.length ≤ n ∧ ∀ K, (lookL es (kap K)).getD (.int .i64 0) = .int .i64 (f K)
section
variable {α : Type} {k t : TypeId} {kap : α → Lit} {w : World} {b n : Nat} {f : α → Int}
theorem Tally.first (h : MapL Try.prog k w b []) : Tally k kap w b (fun _ => 0) 0 := ⟨[], h, Nat.le_refl _, fun _ => rfl⟩
theorem Tally.lt (h : Tally k kap w b f n) : b < w.heap.size := by obtain ⟨es, h, -⟩ := h; exact h.lt
theorem Tally.more (h : Tally k kap w b f n) {m : Nat} (hm : n ≤ m) : Tally k kap w b f m := by
  obtain ⟨es, h1, h2, h3⟩ := h
  exact ⟨es, h1, by omega, h3⟩
theorem Tally.kept {T : Nat → Prop} {w' : World} (h : Tally k kap w b f n) (hk : Kept T w w') (hT : ¬ T b) : Tally k kap w' b f n := by
  obtain ⟨es, h1, h2, h3⟩ := h
  have hlt := h1.lt
  obtain ⟨xs, clock, hh, r⟩ := h1
  exact ⟨es, ⟨xs, clock, (hk.block b hlt hT).trans hh, r⟩, h2, h3⟩
theorem Tally.next {w' : World} (h : Tally k kap w b f n) (hb : Below w.heap.size w w') : Tally k kap w' b f n := h.kept (Kept.of_below (T := fun _ => False) hb) (fun h => h)
theorem zInt (w : World) : (zeroValue 3).run Try.prog w = .ok (.int .i64 0) w := by kernel_rfl
theorem Tally.look (h : Tally k kap w b f n) (K : Maps.Keyed Try.prog k) (ht : Try.prog.underlying t = some (.map k 3)) {x : α} {key : Value} (hkey : keyOf Try.prog k key = some (kap x)) : (Instr.lookup t (.map (some b)) key false).run Try.prog w = .ok (.int .i64 (f x)) w := by
  obtain ⟨es, h1, h2, h3⟩ := h
  rw [h1.look K ht (zInt w) hkey, h3]
theorem Tally.store [DecidableEq α] (h : Tally k kap w b f n) (K : Maps.Keyed Try.prog k) (ht : Try.prog.underlying t = some (.map k 3)) (hn : n < maxLen) {x : α} {key : Value} (hkey : keyOf Try.prog k key = some (kap x)) (hK : WideAt.IsKeyLit (kap x)) (hinj : ∀ q, kap q = kap x → q = x) (v : Int) :
    ∃ w', (Instr.mapUpdate t (.map (some b)) key (.int .i64 v)).run Try.prog w = .ok () w' ∧ Tally k kap w' b (updF f x v) (n + 1) ∧ Kept (fun i => i = b) w w' := by
  obtain ⟨es, h1, h2, h3⟩ := h
  obtain ⟨w', hr, hm, htn⟩ := h1.store K ht (by omega) hkey (val := .int .i64 v)
  refine ⟨w', hr, ⟨_, hm, ?_, fun q => ?_⟩, Kept.turned (T := fun i => i = b) (Kept.refl _ w) htn (.inl rfl)⟩
  · rw [(put_perm es (kap x) (.int .i64 v)).length_eq]
    have : (delL es (kap x)).length ≤ es.length := List.length_filter_le _ _
    simp; omega
  · unfold updF
    by_cases hq : q = x
    · subst hq
      rw [if_pos rfl, look_put_same _ _ hK]; rfl
    · rw [if_neg hq, look_put_other _ _ _ (fun e => hq (hinj q e)), h3]
end
abbrev keyS (K : List UInt8) : Lit := .string K
theorem keyedS : Maps.Keyed Try.prog 9 := Maps.string_keyed Try.underlying9
theorem keySt (K : List UInt8) (h : K.length ≤ maxLen) : keyOf Try.prog 9 (.string (B K)) = some (keyS K) := by
  simp [keyOf, mapKey, Try.underlying9, keyS, B_size, B_data, h]
theorem keyB_len {x y : List UInt8} (hx : x.length ≤ 140737488351232) (hy : y.length ≤ 140737488351232) : (keyB x y).length ≤ maxLen := by
  unfold keyB maxLen
  simp
  omega
end Go.Proofs.Ytplfnjpoikhmbaa.Nt
