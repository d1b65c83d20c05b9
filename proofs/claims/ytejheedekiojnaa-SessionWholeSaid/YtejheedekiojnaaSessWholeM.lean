/-
  The theorem of layer 28 on plain data: the parts of several texts, in whatever order. No program in sight.
-/
import Derived.Test.YtejheedekiojnaaSessPhase
open Go Go.RowKit
namespace Go.Proofs.Ytejheedekiojnaa.Sess
open Base Mp

def txt (T : List (List UInt8)) (i : Nat) : List UInt8 := T.getD i []
def nn (T : List (List UInt8)) (z i : Nat) : Nat := cutN (txt T i).length z
/-- A sender's name. -/
def fk (i : Nat) : List UInt8 := [UInt8.ofNat (97 + i)]
theorem fk_inj {i j : Nat} (hi : i < 32) (hj : j < 32) (h : keyS (fk i) = keyS (fk j)) : i = j := by
  unfold keyS fk at h
  injection h with h
  injection h with h
  have := congrArg UInt8.toNat h
  rw [UInt8.toNat_ofNat_of_lt' (by show 97 + i < 256; omega), UInt8.toNat_ofNat_of_lt' (by show 97 + j < 256; omega)] at this
  omega
/-- Which parts came. -/
abbrev Came := Nat → Nat → Bool
def Came.put (G : Came) (i k : Nat) : Came := fun a b => if a = i ∧ b = k then true else G a b
theorem put_here (G : Came) (i k : Nat) : G.put i k i k = true := by simp [Came.put]
theorem put_old (G : Came) (i k : Nat) (h : G i k = true) : G.put i k = G := by
  funext a b
  unfold Came.put
  split
  · rename_i e; rw [e.1, e.2, h]
  · rfl
theorem put_far (G : Came) (i k a : Nat) (h : a ≠ i) : G.put i k a = G a := by
  funext b
  simp [Came.put, h]
/-- Two tests that differ at one place. -/
theorem count_one (p q : Nat → Bool) (k : Nat) : ∀ n, (∀ j, j < n → j ≠ k → q j = p j) → (List.range n).countP q + (if k < n ∧ p k = true then 1 else 0) = (List.range n).countP p + (if k < n ∧ q k = true then 1 else 0)
  | 0, _ => by simp
  | n + 1, h => by
    have ih := count_one p q k n (fun j hj => h j (by omega))
    rw [List.range_succ, List.countP_append, List.countP_append]
    simp only [List.countP_cons, List.countP_nil, Nat.zero_add]
    by_cases hk : k = n
    · subst hk
      rw [if_neg (by omega), if_neg (by omega)] at ih
      by_cases h1 : p k = true <;> by_cases h2 : q k = true <;> simp [h1, h2] <;> omega
    · have hq := h n (by omega) (fun e => hk e.symm)
      rw [hq]
      have e1 : (k < n + 1 ∧ p k = true) ↔ (k < n ∧ p k = true) := by constructor <;> intro ⟨a, b⟩ <;> exact ⟨by omega, b⟩
      have e2 : (k < n + 1 ∧ q k = true) ↔ (k < n ∧ q k = true) := by constructor <;> intro ⟨a, b⟩ <;> exact ⟨by omega, b⟩
      simp only [e1, e2]
      omega
theorem count_or (p : Nat → Bool) (i n : Nat) (hi : i < n) : (List.range n).countP (fun a => a == i || p a) = (List.range n).countP p + (if p i = true then 0 else 1) := by
  have h := count_one p (fun a => a == i || p a) i n (fun j _ hj => by simp [hj])
  have e1 : (if i < n ∧ (fun a => a == i || p a) i = true then 1 else 0 : Nat) = 1 := if_pos ⟨hi, by simp⟩
  rw [e1] at h
  cases hpi : p i with
  | true =>
    have e2 : (if i < n ∧ p i = true then 1 else 0 : Nat) = 1 := if_pos ⟨hi, hpi⟩
    rw [e2] at h
    rw [if_pos rfl]
    omega
  | false =>
    have e2 : (if i < n ∧ p i = true then 1 else 0 : Nat) = 0 := if_neg (by rw [hpi]; simp)
    rw [e2] at h
    rw [if_neg (by decide)]
    omega
def cnt (T : List (List UInt8)) (z : Nat) (G : Came) (i : Nat) : Nat := (List.range (nn T z i)).countP (G i)
theorem cnt_le (T : List (List UInt8)) (z : Nat) (G : Came) (i : Nat) : cnt T z G i ≤ nn T z i := by
  have := List.countP_le_length (p := G i) (l := List.range (nn T z i))
  rw [List.length_range] at this
  exact this
theorem cnt_put (T : List (List UInt8)) (z : Nat) (G : Came) (i k : Nat) (hk : k < nn T z i) (h : G i k = false) : cnt T z (G.put i k) i = cnt T z G i + 1 := by
  have := count_one (G i) (G.put i k i) k (nn T z i) (fun j _ hj => by simp [Came.put, hj])
  rw [if_neg (by simp [h]), if_pos ⟨hk, put_here G i k⟩] at this
  exact this
theorem cnt_far (T : List (List UInt8)) (z : Nat) (G : Came) (i k a : Nat) (h : a ≠ i) : cnt T z (G.put i k) a = cnt T z G a := by
  unfold cnt
  rw [put_far G i k a h]
theorem cnt_pos (T : List (List UInt8)) (z : Nat) (G : Came) (i k : Nat) (hk : k < nn T z i) (h : G i k = true) : 0 < cnt T z G i :=
  List.countP_pos_iff.2 ⟨k, List.mem_range.2 hk, h⟩
theorem cnt_all (T : List (List UInt8)) (z : Nat) (G : Came) (i : Nat) (h : cnt T z G i = nn T z i) (k : Nat) (hk : k < nn T z i) : G i k = true := by
  have := List.countP_eq_length.1 (h.trans (List.length_range).symm) k (List.mem_range.2 hk)
  exact this
theorem cnt_full (T : List (List UInt8)) (z : Nat) (G : Came) (i : Nat) (h : ∀ k, k < nn T z i → G i k = true) : cnt T z G i = nn T z i :=
  (List.countP_eq_length.2 (fun k hk => h k (List.mem_range.1 hk))).trans List.length_range
theorem cnt_none (T : List (List UInt8)) (z : Nat) (G : Came) (i k : Nat) (h : cnt T z G i = 0) (hk : k < nn T z i) : G i k = false := by
  cases hg : G i k with
  | false => rfl
  | true => have := cnt_pos T z G i k hk hg; omega
def heldOf (T : List (List UInt8)) (z : Nat) (G : Came) (i : Nat) : Held := ⟨i, (List.range (nn T z i)).map fun k => if G i k then some (piece (txt T i) z k) else none⟩
theorem held_length (T : List (List UInt8)) (z : Nat) (G : Came) (i : Nat) : (heldOf T z G i).ps.length = nn T z i := by simp [heldOf]
theorem held_came (T : List (List UInt8)) (z : Nat) (G : Came) (i : Nat) : came (heldOf T z G i) = cnt T z G i := by
  unfold came heldOf cnt
  simp only
  rw [List.countP_map]
  congr 1
  funext k
  simp only [Function.comp_apply]
  split <;> simp_all
theorem held_fresh (T : List (List UInt8)) (z : Nat) (G : Came) (i : Nat) (h : cnt T z G i = 0) : heldOf T z G i = fresh i (nn T z i) := by
  unfold heldOf fresh
  congr 1
  refine List.ext_getElem (by simp) fun k h1 h2 => ?_
  have hk : k < nn T z i := by simpa using h1
  simp [cnt_none T z G i k h hk]
theorem held_put (T : List (List UInt8)) (z : Nat) (G : Came) (i k : Nat) (hk : k < nn T z i) : hput (heldOf T z G i) k (piece (txt T i) z k) = (heldOf T z (G.put i k) i, 0) := by
  unfold hput
  have h0 : (heldOf T z G i).ps[k]? = some (if G i k then some (piece (txt T i) z k) else none) := by simp [heldOf, hk]
  rw [h0]
  cases hg : G i k with
  | true =>
    simp only [if_true]
    rw [put_old G i k hg]
  | false =>
    simp only [Bool.false_eq_true, if_false]
    congr 1
    unfold heldOf
    congr 1
    refine List.ext_getElem (by simp) fun j h1 h2 => ?_
    rw [List.getElem_set]
    simp only [List.getElem_map, List.getElem_range]
    split
    · rename_i e; subst e; simp [put_here]
    · rename_i e
      have : G.put i k i j = G i j := by
        unfold Came.put
        rw [if_neg (fun h => e h.2.symm)]
      rw [this]
theorem held_text (T : List (List UInt8)) (z : Nat) (G : Came) (i : Nat) (hz : 0 < z) (h : cnt T z G i = nn T z i) : textOf (heldOf T z G i) = txt T i := by
  refine Eq.trans ?_ (pieces_all (txt T i) z hz)
  unfold textOf heldOf
  rw [List.map_map]
  congr 1
  refine List.map_congr_left fun k hk => ?_
  rw [List.mem_range] at hk
  simp [cnt_all T z G i h k hk]
def act (T : List (List UInt8)) (z : Nat) (G : Came) (i : Nat) : Bool := decide (0 < cnt T z G i ∧ cnt T z G i < nn T z i)
/-- What a session holds of the texts of which those parts came. -/
structure Holds (T : List (List UInt8)) (z : Nat) (S : St) (G : Came) : Prop where
  look : ∀ i, i < T.length → lookL S (keyS (fk i)) = if act T z G i then some (heldOf T z G i) else none
  len : S.length = (List.range T.length).countP (act T z G)
theorem act_far (T : List (List UInt8)) (z : Nat) (G : Came) (i k a : Nat) (h : a ≠ i) : act T z (G.put i k) a = act T z G a := by
  unfold act
  rw [cnt_far T z G i k a h]
theorem held_far (T : List (List UInt8)) (z : Nat) (G : Came) (i k a : Nat) (h : a ≠ i) : heldOf T z (G.put i k) a = heldOf T z G a := by
  unfold heldOf
  rw [put_far G i k a h]
theorem pair_put {α : Type} (es : List (Lit × α)) (k : Lit) (v : α) (hk : WideAt.IsKeyLit k) (hn : es.Pairwise fun p q => p.1 ≠ q.1) : (putL es k v).Pairwise fun p q => p.1 ≠ q.1 := by
  refine ((put_perm es k v).pairwise_iff (fun h => Ne.symm h)).2 (List.pairwise_cons.2 ⟨fun p hp => ?_, hn.filter _⟩)
  have h := (List.mem_filter.1 hp).2
  intro e
  have e2 : p.1 = k := e.symm
  rw [e2, WideAt.sameKey_self hk] at h
  cases h
theorem isKey (f : List UInt8) : WideAt.IsKeyLit (keyS f) := trivial
/-- A session that holds text i's parts, whether or not they are all. -/
structure Mid (T : List (List UInt8)) (z : Nat) (S : St) (G : Came) (i : Nat) : Prop where
  here : lookL S (keyS (fk i)) = some (heldOf T z G i)
  look : ∀ a, a < T.length → a ≠ i → lookL S (keyS (fk a)) = if act T z G a then some (heldOf T z G a) else none
  len : S.length = (List.range T.length).countP (fun a => a == i || act T z G a)
  pair : S.Pairwise fun p q => p.1 ≠ q.1
theorem key_ne {T : List (List UInt8)} (hT : T.length ≤ 32) {a i : Nat} (ha : a < T.length) (hi : i < T.length) (h : a ≠ i) : keyS (fk a) ≠ keyS (fk i) := fun e => h (fk_inj (by omega) (by omega) e)
theorem del_length {α : Type} (es : List (Lit × α)) (k : Lit) (v : α) (hn : es.Pairwise fun p q => p.1 ≠ q.1) (h : lookL es k = some v) : es.length = (delL es k).length + 1 := by
  rw [(del_perm es k v hn h).length_eq]; rfl
theorem more_step (T : List (List UInt8)) (z : Nat) (S : St) (G : Came) (i k : Nat) (hT : T.length ≤ 32) (hi : i < T.length) (hz : 0 < z) (hk : k < nn T z i) (hl : cnt T z G i < nn T z i) (h : Mid T z S G i) :
    ∃ S', more S (fk i) (heldOf T z G i) (partOf (txt T i) i z (nn T z i) k) = (S', if cnt T z (G.put i k) i = nn T z i then (txt T i, true, 0) else ([], false, 0)) ∧ Holds T z S' (G.put i k) := by
  have hp := held_put T z G i k hk
  have hpos : 0 < cnt T z (G.put i k) i := cnt_pos T z _ i k hk (put_here G i k)
  have hcl := cnt_le T z (G.put i k) i
  have hput : hput (heldOf T z G i) (partOf (txt T i) i z (nn T z i) k).i.toNat (partOf (txt T i) i z (nn T z i) k).text = (heldOf T z (G.put i k) i, 0) := hp
  unfold more
  rw [if_neg (by rw [held_length]; simp [partOf]), hput]
  simp only [ne_eq, not_true_eq_false, if_false, held_came, held_length]
  have hrange : ∀ p : Nat → Bool, (List.range T.length).countP (fun a => a == i || p a) = (List.range T.length).countP p + (if p i = true then 0 else 1) := fun p => count_or p i T.length hi
  have hsame : (List.range T.length).countP (fun a => a == i || act T z (G.put i k) a) = (List.range T.length).countP (fun a => a == i || act T z G a) := by
    congr 1
    funext a
    by_cases ha : a = i
    · simp [ha]
    · rw [act_far T z G i k a ha]
  by_cases hlast : cnt T z (G.put i k) i < nn T z i
  · rw [if_pos hlast, if_neg (by omega)]
    have ha : act T z (G.put i k) i = true := by simp [act, hpos, hlast]
    refine ⟨_, rfl, ⟨fun a ha2 => ?_, ?_⟩⟩
    · by_cases hai : a = i
      · subst hai
        rw [look_set_same S _ _ _ h.here, if_pos ha]
      · rw [look_set_other S _ _ _ (key_ne hT ha2 hi hai), h.look a ha2 hai, act_far T z G i k a hai, held_far T z G i k a hai]
    · rw [set_length, h.len, ← hsame, hrange, if_pos ha]; rfl
  · rw [if_neg hlast, if_pos (by omega), held_text T z (G.put i k) i hz (by omega)]
    have ha : act T z (G.put i k) i = false := by simp [act]; omega
    refine ⟨_, rfl, ⟨fun a ha2 => ?_, ?_⟩⟩
    · by_cases hai : a = i
      · subst hai
        rw [look_del_same, ha]; rfl
      · rw [look_del_other S _ _ (key_ne hT ha2 hi hai), h.look a ha2 hai, act_far T z G i k a hai, held_far T z G i k a hai]
    · have h1 := del_length S _ _ h.pair h.here
      rw [h.len, ← hsame, hrange, if_neg (by rw [ha]; decide)] at h1
      omega
/-- What a part comes to. -/
theorem sput_whole (T : List (List UInt8)) (z : Nat) (S : St) (G : Came) (i k : Nat) (hT : T.length ≤ 32) (hi : i < T.length) (hz : 0 < z) (hz2 : z ≤ 4096) (hN : nn T z i ≤ 256) (hk : k < nn T z i) (hl : cnt T z G i < nn T z i)
    (hpair : S.Pairwise fun p q => p.1 ≠ q.1) (h : Holds T z S G) :
    ∃ S', sput S (fk i) (partOf (txt T i) i z (nn T z i) k) = (S', if cnt T z (G.put i k) i = nn T z i then (txt T i, true, 0) else ([], false, 0)) ∧ Holds T z S' (G.put i k) := by
  have hmay : may (partOf (txt T i) i z (nn T z i) k) = true := may_part (txt T i) i z k hz2 hN hk
  have hrange := count_or (act T z G) i T.length hi
  have hle : (List.range T.length).countP (fun a => a == i || act T z G a) ≤ T.length := by
    have := List.countP_le_length (p := fun a => a == i || act T z G a) (l := List.range T.length)
    rw [List.length_range] at this
    exact this
  unfold sput
  rw [if_neg (by rw [hmay]; simp), h.look i hi]
  by_cases h0 : cnt T z G i = 0
  · have ha : act T z G i = false := by simp [act, h0]
    rw [ha] at hrange ⊢
    simp only [Bool.false_eq_true, if_false]
    unfold begin_
    rw [if_neg (by rw [h.len]; simp at hrange; omega)]
    have e : fresh (partOf (txt T i) i z (nn T z i) k).id (partOf (txt T i) i z (nn T z i) k).n.toNat = heldOf T z G i := by rw [held_fresh T z G i h0]; rfl
    rw [e]
    have hn : lookL S (keyS (fk i)) = none := by rw [h.look i hi, ha]; rfl
    refine more_step T z _ G i k hT hi hz hk hl ⟨look_put_same S _ (isKey _) _, fun a ha2 hai => ?_, ?_, pair_put S _ _ (isKey _) hpair⟩
    · rw [look_put_other S _ _ (key_ne hT ha2 hi hai), h.look a ha2]
    · rw [put_length_new S _ _ hn, h.len, hrange]; rfl
  · have ha : act T z G i = true := by simp [act]; omega
    rw [ha] at hrange ⊢
    simp only [if_true]
    have e1 : ¬ (partOf (txt T i) i z (nn T z i) k).id < (heldOf T z G i).id := by simp [partOf, heldOf]
    have e2 : ¬ (heldOf T z G i).id < (partOf (txt T i) i z (nn T z i) k).id := by simp [partOf, heldOf]
    rw [if_neg e1, if_neg e2]
    refine more_step T z S G i k hT hi hz hk hl ⟨by rw [h.look i hi, ha]; rfl, fun a ha2 _ => h.look a ha2, ?_, hpair⟩
    rw [h.len, hrange]; rfl
theorem holds_end (T : List (List UInt8)) (z : Nat) (S : St) (G : Came) (h : Holds T z S G) (hG : ∀ i, i < T.length → cnt T z G i = nn T z i) : S = [] := by
  have : (List.range T.length).countP (act T z G) = 0 := by
    rw [List.countP_eq_zero]
    intro i hi
    rw [List.mem_range] at hi
    simp [act, hG i hi]
  have hl := h.len
  rw [this] at hl
  exact List.length_eq_zero_iff.1 hl
theorem holds_start (T : List (List UInt8)) (z : Nat) : Holds T z [] (fun _ _ => false) := by
  have hc : ∀ i, cnt T z (fun _ _ => false) i = 0 := fun i => by unfold cnt; rw [List.countP_eq_zero]; simp
  refine ⟨fun i _ => by simp [act, hc, lookL], ?_⟩
  symm
  rw [List.length_nil, List.countP_eq_zero]
  intro i _
  simp [act, hc]

/-! ### The steps -/
def stepsOf (T : List (List UInt8)) (z n : Nat) : List (Nat × Nat) := (List.range n).flatMap fun i => (List.range (nn T z i)).map fun k => (i, k)
theorem steps_mem (T : List (List UInt8)) (z n i k : Nat) : (i, k) ∈ stepsOf T z n ↔ i < n ∧ k < nn T z i := by
  unfold stepsOf
  rw [List.mem_flatMap]
  constructor
  · rintro ⟨a, ha, hm⟩
    obtain ⟨b, hb, e⟩ := List.mem_map.1 hm
    injection e with e1 e2
    subst e1 e2
    exact ⟨List.mem_range.1 ha, List.mem_range.1 hb⟩
  · rintro ⟨h1, h2⟩
    exact ⟨i, List.mem_range.2 h1, List.mem_map.2 ⟨k, List.mem_range.2 h2, rfl⟩⟩
theorem steps_succ (T : List (List UInt8)) (z n : Nat) : stepsOf T z (n + 1) = stepsOf T z n ++ (List.range (nn T z n)).map fun k => (n, k) := by
  unfold stepsOf
  rw [List.range_succ, List.flatMap_append]
  simp
theorem steps_le (T : List (List UInt8)) (z n : Nat) (h : ∀ i, i < n → nn T z i ≤ 256) : (stepsOf T z n).length ≤ n * 256 := by
  induction n with
  | zero => simp [stepsOf]
  | succ n ih =>
    rw [steps_succ, List.length_append, List.length_map, List.length_range]
    have h1 := ih (fun i hi => h i (by omega))
    have h2 := h n (by omega)
    omega
/-- How many of the first steps are of a text. -/
def tally (A : List (Nat × Nat)) (i : Nat) : Nat := A.countP (fun p => p.1 == i)
theorem tally_snoc (A : List (Nat × Nat)) (p : Nat × Nat) (i : Nat) : tally (A ++ [p]) i = tally A i + if p.1 = i then 1 else 0 := by
  unfold tally
  rw [List.countP_append]
  simp [List.countP_cons]
theorem tally_all (T : List (List UInt8)) (z n i : Nat) : tally (stepsOf T z n) i = if i < n then nn T z i else 0 := by
  induction n with
  | zero => simp [tally, stepsOf]
  | succ n ih =>
    rw [steps_succ]
    unfold tally at ih ⊢
    rw [List.countP_append, ih, List.countP_map]
    by_cases h : n = i
    · subst h
      rw [if_neg (by omega), if_pos (by omega), Nat.zero_add]
      refine (List.countP_eq_length.2 ?_).trans List.length_range
      intro k _
      simp
    · have : (List.range (nn T z n)).countP ((fun p : Nat × Nat => p.1 == i) ∘ fun k => (n, k)) = 0 := by
        rw [List.countP_eq_zero]
        intro k _
        simp [h]
      rw [this]
      by_cases h2 : i < n
      · rw [if_pos h2, if_pos (by omega)]; rfl
      · rw [if_neg h2, if_neg (by omega)]
end Go.Proofs.Ytejheedekiojnaa.Sess
