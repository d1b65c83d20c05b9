/-
  A session and two maps beside it (layer 28): what stays as it is while one of them turns.
-/
import Derived.Test.YtejheedekiojnaaSessKeyP
import Derived.Test.YtejheedekiojnaaMapEntry
import Derived.Test.YtejheedekiojnaaSessWorks
open Go Go.RowKit
namespace Go.Proofs.Ytejheedekiojnaa.Sess
open Base Mp

structure PlayInv (w0 : World) (m mL mC x : Nat) (S : St) (L M : List (Lit × Value)) (W : World) : Prop where
  sess : ∃ T, SessAt W m S T ∧ ¬ T mL ∧ ¬ T mC ∧ (∀ i, T i → m ≤ i) ∧ ¬ T x
  left : MapL Try.prog 9 W mL L
  came : MapL Try.prog 32 W mC M
  below : Below m w0 W
  far : mL ≠ mC
  lo : m ≤ mL ∧ m ≤ mC
section
variable {w0 W W' : World} {m mL mC x : Nat} {S : St} {L M : List (Lit × Value)}
theorem PlayInv.lt (h : PlayInv w0 m mL mC x S L M W) : m < W.heap.size := by
  obtain ⟨T, ⟨blk, hs⟩, _⟩ := h.sess
  exact hs.old _ hs.mine0
theorem PlayInv.later (h : PlayInv w0 m mL mC x S L M W) (hb : Below W.heap.size W W') : PlayInv w0 m mL mC x S L M W' := by
  have hlt := h.lt
  obtain ⟨T, ⟨blk, hs⟩, h1, h2, h3, h4⟩ := h.sess
  exact ⟨⟨T, ⟨blk, hs.later hb⟩, h1, h2, h3, h4⟩, h.left.next hb, h.came.next hb, h.below.trans (hb.mono (Nat.le_of_lt hlt)), h.far, h.lo⟩
theorem PlayInv.turn {b : Nat} (h : PlayInv w0 m mL mC x S L M W) (ht : W.mapTurned W' b) (hb : b = mL ∨ b = mC) : (∃ T, SessAt W' m S T ∧ ¬ T mL ∧ ¬ T mC ∧ (∀ i, T i → m ≤ i) ∧ ¬ T x) ∧ Below m w0 W' := by
  have hlt := h.lt
  have hk : Kept (fun i => i = b) W W' := (Kept.refl _ W).turned ht (.inl rfl)
  obtain ⟨T, ⟨blk, hs⟩, h1, h2, h3, h4⟩ := h.sess
  refine ⟨⟨T, ⟨blk, hs.next (hk.mono fun i hi hT => ?_) (fun i hi => hi) (fun i hi => Nat.lt_of_lt_of_le (hs.old i hi) hk.size)⟩, h1, h2, h3, h4⟩, h.below.trans (hk.below (fun i hi => ?_) (Nat.le_of_lt hlt))⟩
  · subst hi
    rcases hb with rfl | rfl
    · exact h1 hT
    · exact h2 hT
  · subst hi
    rcases hb with rfl | rfl
    · exact h.lo.1
    · exact h.lo.2
theorem PlayInv.turnL {L' : List (Lit × Value)} (h : PlayInv w0 m mL mC x S L M W) (hm : MapL Try.prog 9 W' mL L') (ht : W.mapTurned W' mL) : PlayInv w0 m mL mC x S L' M W' := by
  have hk : Kept (fun i => i = mL) W W' := (Kept.refl _ W).turned ht (.inl rfl)
  obtain ⟨h1, h2⟩ := h.turn ht (.inl rfl)
  exact ⟨h1, hm, h.came.kept' hk (fun e => h.far e.symm), h2, h.far, h.lo⟩
theorem PlayInv.turnC {M' : List (Lit × Value)} (h : PlayInv w0 m mL mC x S L M W) (hm : MapL Try.prog 32 W' mC M') (ht : W.mapTurned W' mC) : PlayInv w0 m mL mC x S L M' W' := by
  have hk : Kept (fun i => i = mC) W W' := (Kept.refl _ W).turned ht (.inl rfl)
  obtain ⟨h1, h2⟩ := h.turn ht (.inr rfl)
  exact ⟨h1, h.left.kept' hk h.far, hm, h2, h.far, h.lo⟩
theorem PlayInv.turned2 {W2 : World} {M' : List (Lit × Value)} (h : PlayInv w0 m mL mC x S L M W) (ht : W.mapTurned W2 mC) (ht2 : W2.mapTurned W' mC) (hm : MapL Try.prog 32 W' mC M') : PlayInv w0 m mL mC x S L M' W' := by
  have ht3 : W.mapTurned W' mC := by
    obtain ⟨es, clock, es', clock', h1, rfl⟩ := ht
    obtain ⟨es2, clock2, es3, clock3, h2, rfl⟩ := ht2
    refine ⟨es, clock, es3, clock3, h1, ?_⟩
    unfold ChangeMaps.setBlock
    simp
  exact h.turnC hm ht3
theorem PlayInv.put_calls (h : PlayInv w0 m mL mC x S L M W) (hx : x < W.heap.size) (f : List UInt8) (p : PartD) (hf : f.length ≤ maxLen)
    (hp : -9223372036854775808 ≤ p.i ∧ p.i ≤ 9223372036854775807) (hn : -9223372036854775808 ≤ p.n ∧ p.n ≤ 9223372036854775807) (ht : p.text.length ≤ maxLen) :
    Calls Try.prog 11 #[ptr (m + 1), .string (B f), partV p] W fun e w' => e = .returned (putV (sput S f p)) ∧ PlayInv w0 m mL mC x (sput S f p).1 L M w' ∧ ∀ c, w'.cell? ⟨x, c, none⟩ = W.cell? ⟨x, c, none⟩ := by
  obtain ⟨T, hs, h1, h2, h3, h4⟩ := h.sess
  have hlt := h.lt
  refine (Put_calls W m S T f p hs hf hp hn ht).mono fun e w' ⟨he, hpp⟩ => ⟨he, ⟨⟨_, hpp.sess, ?_, ?_, ?_, ?_⟩, h.left.kept' hpp.kept h1, h.came.kept' hpp.kept h2, h.below.trans (hpp.kept.below h3 (Nat.le_of_lt hlt)), h.far, h.lo⟩, fun c => World.cell?_of_block (hpp.kept.block x hx h4)⟩
  · rintro (hT | hT)
    · exact h1 hT
    · have := h.left.lt; omega
  · rintro (hT | hT)
    · exact h2 hT
    · have := h.came.lt; omega
  · rintro i (hT | hT)
    · exact h3 i hT
    · omega
  · rintro (hT | hT)
    · exact h4 hT
    · omega
/-- A block that is made now is none of the session's. -/
theorem PlayInv.fresh (h : PlayInv w0 m mL mC x S L M W) (o : Obj) : PlayInv w0 m mL mC W.heap.size S L M (W.alloc o) := by
  have hb : Below W.heap.size W (W.alloc o) := (Below.refl _ _).alloc (Nat.le_refl _) _
  have h2 := h.later hb
  obtain ⟨T, ⟨blk, hs⟩, a1, a2, a3, _⟩ := h.sess
  exact ⟨⟨T, ⟨blk, hs.later hb⟩, a1, a2, a3, fun ht => by have := hs.old _ ht; omega⟩, h2.left, h2.came, h2.below, h2.far, h2.lo⟩
theorem PlayInv.forget (h : PlayInv w0 m mL mC x S L M W) : PlayInv w0 m mL mC mL S L M W := by
  obtain ⟨T, hs, a1, a2, a3, _⟩ := h.sess
  exact ⟨⟨T, hs, a1, a2, a3, a1⟩, h.left, h.came, h.below, h.far, h.lo⟩
theorem PlayInv.pair (h : PlayInv w0 m mL mC x S L M W) : S.Pairwise fun p q => p.1 ≠ q.1 := by
  obtain ⟨T, ⟨blk, hs⟩, _⟩ := h.sess
  exact hs.keys
theorem PlayInv.len_calls (h : PlayInv w0 m mL mC x S L M W) : Calls Try.prog 12 #[ptr (m + 1)] W fun e w' => e = .returned (.int .i64 (S.length : Nat)) ∧ W = w' := by
  obtain ⟨T, hs, _⟩ := h.sess
  exact Len_calls W m S T hs
theorem PlayInv.held_calls (h : PlayInv w0 m mL mC x S L M W) : Calls Try.prog 13 #[ptr (m + 1)] W fun e w' => e = .returned (.int .i64 (heldS S : Nat)) ∧ Below W.heap.size W w' := by
  obtain ⟨T, hs, _⟩ := h.sess
  exact Held_calls W m S T hs
/-- The start: New's session, and the two maps made behind it. -/
theorem PlayInv.start {w2 : World} (hs : SessAt w2 m [] (fun i => m ≤ i ∧ i < w2.heap.size)) (hb : Below m w0 w2) :
    PlayInv w0 m w2.heap.size (w2.heap.size + 1) w2.heap.size [] [] [] ((w2.alloc (.map #[] 0)).alloc (.map #[] 0)) := by
  obtain ⟨blk, hs⟩ := hs
  have hlt : m < w2.heap.size := hs.old _ hs.mine0
  have h1 : Below w2.heap.size w2 (w2.alloc (.map #[] 0)) := (Below.refl _ _).alloc (Nat.le_refl _) _
  have h2 : Below (w2.alloc (.map #[] 0)).heap.size (w2.alloc (.map #[] 0)) ((w2.alloc (.map #[] 0)).alloc (.map #[] 0)) := (Below.refl _ _).alloc (Nat.le_refl _) _
  have h12 := Base.later h1 h2
  refine ⟨⟨_, ⟨blk, hs.later h12⟩, fun h => by omega, fun h => by omega, fun i hi => hi.1, fun h => by omega⟩, (made w2 _ _).next h2, ?_, hb.trans (h12.mono (Nat.le_of_lt hlt)), by omega, by omega⟩
  have h3 := made (w2.alloc (.map #[] 0)) Try.prog 32
  rw [alloc_more] at h3
  exact h3
end
/-! ### Which parts came, as the map has it -/
def kp (T : List (List UInt8)) (z j k : Nat) : Lit := klP (partOf (txt T j) j z (nn T z j) k)
theorem kp_key (T : List (List UInt8)) (z j k : Nat) (hj : j < 32) (hz : z ≤ 4096) (hn : nn T z j ≤ 256) (hk : k < nn T z j) : keyOf Try.prog 32 (partV (partOf (txt T j) j z (nn T z j) k)) = some (kp T z j k) := by
  have hp := piece_le (txt T j) z k
  refine keyP _ ?_ ?_ ?_ ?_
  · simp only [partOf]; omega
  · simp only [partOf]; omega
  · simp only [partOf]; omega
  · simp only [partOf]; unfold maxLen; omega
theorem kp_inj (T : List (List UInt8)) (z i j k l : Nat) (hi : i < 32) (hj : j < 32) (hz : z ≤ 4096) (hni : nn T z i ≤ 256) (hnj : nn T z j ≤ 256) (hk : k < nn T z i) (hl : l < nn T z j) (h : kp T z i k = kp T z j l) : i = j ∧ k = l := by
  have h1 := kp_key T z i k hi hz hni hk
  have h2 := kp_key T z j l hj hz hnj hl
  rw [h] at h1
  have h3 := keyedP.inj h1 h2
  unfold partV partOf at h3
  simp at h3
  obtain ⟨a1, a2, -⟩ := h3
  exact ⟨by omega, by omega⟩
def CameOk (T : List (List UInt8)) (z : Nat) (M : List (Lit × Value)) (G : Came) (r : Nat) : Prop :=
  ∀ j k, j < T.length → k < nn T z j → (G j k = false → lookL M (kp T z j k) = none) ∧ (G j k = true → ∃ c : Nat, 1 ≤ c ∧ c ≤ r ∧ lookL M (kp T z j k) = some (.int .i64 (c : Int)))
theorem CameOk.next {T : List (List UInt8)} {z : Nat} {M : List (Lit × Value)} {G : Came} {r : Nat} (h : CameOk T z M G r) : CameOk T z M G (r + 1) := fun j k hj hk => by
  obtain ⟨h1, h2⟩ := h j k hj hk
  exact ⟨h1, fun h => by obtain ⟨c, a1, a2, a3⟩ := h2 h; exact ⟨c, a1, by omega, a3⟩⟩
theorem CameOk.put {T : List (List UInt8)} {z : Nat} {M : List (Lit × Value)} {G : Came} {r : Nat} (h : CameOk T z M G r) (hT : T.length ≤ 32) (hz : z ≤ 4096) (hn : ∀ j, j < T.length → nn T z j ≤ 256) (i k c : Nat) (hi : i < T.length) (hk : k < nn T z i) (hc : c ≤ r) :
    CameOk T z (putL M (kp T z i k) (.int .i64 ((c : Int) + 1))) (G.put i k) (r + 1) := fun j l hj hl => by
  by_cases he : j = i ∧ l = k
  · obtain ⟨rfl, rfl⟩ := he
    rw [put_here]
    refine ⟨fun h => (Bool.noConfusion h), fun _ => ⟨c + 1, by omega, by omega, ?_⟩⟩
    rw [look_put_same M _ (show WideAt.IsKeyLit (kp T z j l) from trivial)]
    rfl
  · have hg : G.put i k j l = G j l := by unfold Came.put; rw [if_neg he]
    rw [hg, look_put_other M _ _ (fun e => he (by
      obtain ⟨h1, h2⟩ := kp_inj T z j i l k (by omega) (by omega) hz (hn j hj) (hn i hi) hl hk e
      exact ⟨h1, h2⟩))]
    exact h.next j l hj hl
def LeftOk (T : List (List UInt8)) (z : Nat) (L : List (Lit × Value)) (G : Came) : Prop := ∀ j, j < T.length → lookL L (keyS (fk j)) = some (.int .i64 (((nn T z j - cnt T z G j : Nat)) : Int))
theorem LeftOk.put {T : List (List UInt8)} {z : Nat} {L : List (Lit × Value)} {G : Came} (h : LeftOk T z L G) (hT : T.length ≤ 32) (i k c : Nat) (hi : i < T.length) (hk : k < nn T z i) (hg : G i k = false) (hc : nn T z i - cnt T z G i = c) :
    LeftOk T z (putL L (keyS (fk i)) (.int .i64 ((c : Int) - 1))) (G.put i k) := fun j hj => by
  by_cases hij : j = i
  · subst hij
    have h1 := cnt_put T z G j k hk hg
    have h2 := cnt_le T z (G.put j k) j
    rw [look_put_same L _ (isKey _), h1]
    congr 2
    omega
  · rw [look_put_other L _ _ (key_ne hT hj hi hij), h j hj, cnt_far T z G i k j hij]
theorem turned_cell {w w' : World} {b : Nat} (ht : w.mapTurned w' b) (a : Addr) (ha : a.block ≠ b) : w'.cell? a = w.cell? a := by
  have hg := ht.grown
  have hk : Kept (fun i => i = b) w w' := (Kept.refl _ w).turned ht (.inl rfl)
  rcases Nat.lt_or_ge a.block w.heap.size with h | h
  · exact World.cell?_of_block (hk.block a.block h ha)
  · obtain ⟨es, clock, es', clock', h1, rfl⟩ := ht
    unfold World.cell? ChangeMaps.setBlock
    simp only
    rw [Array.getElem?_setIfInBounds_ne (fun e => ha e.symm)]
end Go.Proofs.Ytejheedekiojnaa.Sess
