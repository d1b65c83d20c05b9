/-
  Sessions (layer 28) on plain data: parts of a text, what a sender holds, what comes of a part. No program in sight. No condition.
-/
import Derived.Test.YtejheedekiojnaaMaps
open Go
namespace Go.Proofs.Ytejheedekiojnaa.Sess
open Mp

structure PartD where
  id : Nat
  i : Int
  n : Int
  text : List UInt8

/-! ### Cut -/
def cutN (len size : Nat) : Nat := max 1 ((len + size - 1) / size)
def piece (t : List UInt8) (size i : Nat) : List UInt8 := (t.take ((i + 1) * size)).drop (i * size)
def partOf (t : List UInt8) (id size n i : Nat) : PartD := ⟨id, (i : Int), (n : Int), piece t size i⟩
def cutT (t : List UInt8) (id size : Nat) : List PartD := (List.range (cutN t.length size)).map (partOf t id size (cutN t.length size))

theorem cutN_pos (len size : Nat) : 1 ≤ cutN len size := Nat.le_max_left _ _
theorem cutN_covers (len size : Nat) (hs : 0 < size) : len ≤ cutN len size * size := by
  unfold cutN
  have h1 : len ≤ (len + size - 1) / size * size := by
    have := Nat.div_add_mod (len + size - 1) size
    have h2 := Nat.mod_lt (len + size - 1) hs
    rw [Nat.mul_comm] at this
    omega
  exact Nat.le_trans h1 (Nat.mul_le_mul_right _ (Nat.le_max_right _ _))
/-- All but the last part are whole. -/
theorem cutN_before (len size i : Nat) (hs : 0 < size) (hi : i + 1 < cutN len size) : (i + 1) * size < len := by
  unfold cutN at hi
  have h1 : i + 1 < (len + size - 1) / size := by
    rcases Nat.le_total 1 ((len + size - 1) / size) with h | h
    · rwa [Nat.max_eq_right h] at hi
    · rw [Nat.max_eq_left h] at hi; omega
  have h2 : (i + 2) * size ≤ len + size - 1 := by
    have := Nat.div_mul_le_self (len + size - 1) size
    exact Nat.le_trans (Nat.mul_le_mul_right _ (by omega)) this
  have h3 : (i + 2) * size = (i + 1) * size + size := by rw [Nat.add_mul, Nat.add_mul]; omega
  omega
theorem cutN_long (len size m : Nat) (hs : 0 < size) (hm : 1 ≤ m) : m < cutN len size ↔ m * size < len := by
  unfold cutN
  constructor
  · intro h
    have h1 : m < (len + size - 1) / size := by
      rcases Nat.le_total 1 ((len + size - 1) / size) with h' | h'
      · rwa [Nat.max_eq_right h'] at h
      · rw [Nat.max_eq_left h'] at h; omega
    have h2 : (m + 1) * size ≤ len + size - 1 := Nat.le_trans (Nat.mul_le_mul_right _ (by omega)) (Nat.div_mul_le_self (len + size - 1) size)
    rw [Nat.add_mul] at h2
    omega
  · intro h
    have h2 : m + 1 ≤ (len + size - 1) / size := (Nat.le_div_iff_mul_le hs).2 (by rw [Nat.add_mul]; omega)
    exact Nat.lt_of_lt_of_le (by omega : m < (len + size - 1) / size) (Nat.le_max_right _ _)
theorem piece_length (t : List UInt8) (size i : Nat) : (piece t size i).length = min ((i + 1) * size) t.length - i * size := by simp [piece]
theorem piece_le (t : List UInt8) (size i : Nat) : (piece t size i).length ≤ size := by
  rw [piece_length, Nat.add_mul]; omega
theorem pieces_take (t : List UInt8) (size k : Nat) : ((List.range k).map (piece t size)).flatten = t.take (k * size) := by
  induction k with
  | zero => simp
  | succ k ih =>
    rw [List.range_succ, List.map_append, List.flatten_append, ih]
    simp only [List.map_cons, List.map_nil, List.flatten_cons, List.flatten_nil, List.append_nil]
    have h : t.take (k * size) = (t.take ((k + 1) * size)).take (k * size) := by
      rw [List.take_take, Nat.min_eq_left (Nat.mul_le_mul_right _ (by omega))]
    rw [h]
    exact List.take_append_drop _ _
theorem pieces_all (t : List UInt8) (size : Nat) (hs : 0 < size) : ((List.range (cutN t.length size)).map (piece t size)).flatten = t := by
  rw [pieces_take, List.take_of_length_le (cutN_covers _ _ hs)]

/-! ### What a sender holds -/
structure Held where
  id : Nat
  ps : List (Option (List UInt8))
def came (h : Held) : Nat := h.ps.countP (·.isSome)
def bytes (h : Held) : Nat := (h.ps.map fun o => (o.getD []).length).sum
def textOf (h : Held) : List UInt8 := (h.ps.map (·.getD [])).flatten
def fresh (id n : Nat) : Held := ⟨id, List.replicate n none⟩
/-- A part of its own text: what is held then, the error. -/
def hput (h : Held) (i : Nat) (x : List UInt8) : Held × Nat :=
  match h.ps[i]? with
  | some (some y) => if y = x then (h, 0) else (h, 7)
  | _ => (⟨h.id, h.ps.set i (some x)⟩, 0)
def may (p : PartD) : Bool := decide (1 ≤ p.n ∧ p.n ≤ 256 ∧ 0 ≤ p.i ∧ p.i < p.n ∧ p.text.length ≤ 4096)

theorem came_le (h : Held) : came h ≤ h.ps.length := List.countP_le_length
theorem came_fresh (id n : Nat) : came (fresh id n) = 0 := by
  unfold came fresh
  rw [List.countP_eq_zero]
  intro a ha
  rw [List.eq_of_mem_replicate ha]
  simp
theorem bytes_fresh (id n : Nat) : bytes (fresh id n) = 0 := by simp [bytes, fresh]
theorem bytes_textOf (h : Held) : (textOf h).length = bytes h := by
  simp only [textOf, bytes, List.length_flatten, List.map_map]
  rfl
theorem came_set (ps : List (Option (List UInt8))) (i : Nat) (x : List UInt8) (hi : i < ps.length) (hn : ps[i] = none) : (ps.set i (some x)).countP (·.isSome) = ps.countP (·.isSome) + 1 := by
  rw [List.countP_set hi]
  simp [hn]
theorem sum_set (ps : List (Option (List UInt8))) (i : Nat) (x : List UInt8) (hi : i < ps.length) (hn : ps[i] = none) :
    ((ps.set i (some x)).map fun o => (o.getD []).length).sum = (ps.map fun o => (o.getD []).length).sum + x.length := by
  induction ps generalizing i with
  | nil => simp at hi
  | cons o ps ih =>
    cases i with
    | zero => simp at hn; subst hn; simp; omega
    | succ i =>
      simp only [List.set_cons_succ, List.map_cons, List.sum_cons]
      rw [ih i (by simpa using hi) (by simpa using hn)]
      omega
/-- A held text as it may be. -/
structure Fine (h : Held) : Prop where
  few : h.ps.length ≤ 256
  most : 1 ≤ h.ps.length
  short : ∀ x, some x ∈ h.ps → x.length ≤ 4096
theorem bytes_le (h : Held) (hf : Fine h) : bytes h ≤ 256 * 4096 := by
  have key : ∀ ps : List (Option (List UInt8)), (∀ x, Option.some x ∈ ps → x.length ≤ 4096) → (ps.map fun o => (o.getD []).length).sum ≤ ps.length * 4096 := by
    intro ps
    induction ps with
    | nil => simp
    | cons o ps ih =>
      intro hs
      have h1 := ih (fun x hx => hs x (by simp [hx]))
      have h2 : (o.getD []).length ≤ 4096 := by
        cases o with
        | none => simp
        | some x => exact hs x (by simp)
      simp only [List.map_cons, List.sum_cons, List.length_cons]
      omega
  have := key h.ps hf.short
  have h2 := Nat.mul_le_mul_right 4096 hf.few
  exact Nat.le_trans this h2
theorem fine_fresh (id n : Nat) (h1 : 1 ≤ n) (h2 : n ≤ 256) : Fine (fresh id n) := by
  refine ⟨by simp [fresh]; exact h2, by simp [fresh]; exact h1, fun x hx => ?_⟩
  have := List.eq_of_mem_replicate hx
  cases this
theorem hput_length (h : Held) (i : Nat) (x : List UInt8) : (hput h i x).1.ps.length = h.ps.length := by
  unfold hput
  split
  · split <;> rfl
  · simp
theorem hput_id (h : Held) (i : Nat) (x : List UInt8) : (hput h i x).1.id = h.id := by
  unfold hput
  split
  · split <;> rfl
  · rfl
theorem hput_err (h : Held) (i : Nat) (x : List UInt8) : (hput h i x).2 = 0 ∨ ((hput h i x).2 = 7 ∧ (hput h i x).1 = h) := by
  unfold hput
  split
  · split
    · exact .inl rfl
    · exact .inr ⟨rfl, rfl⟩
  · exact .inl rfl
theorem hput_fine (h : Held) (i : Nat) (x : List UInt8) (hf : Fine h) (hx : x.length ≤ 4096) : Fine (hput h i x).1 := by
  refine ⟨by rw [hput_length]; exact hf.few, by rw [hput_length]; exact hf.most, ?_⟩
  unfold hput
  split
  · split <;> exact hf.short
  · intro y hy
    rcases List.mem_or_eq_of_mem_set hy with hy | hy
    · exact hf.short y hy
    · injection hy with hy; subst hy; exact hx

/-! ### A session -/
abbrev St := List (Lit × Held)
def keyS (f : List UInt8) : Lit := .string f
def more (S : St) (f : List UInt8) (h : Held) (p : PartD) : St × List UInt8 × Bool × Nat :=
  if (h.ps.length : Int) ≠ p.n then (S, [], false, 3)
  else if (hput h p.i.toNat p.text).2 ≠ 0 then (S, [], false, (hput h p.i.toNat p.text).2)
  else if came (hput h p.i.toNat p.text).1 < h.ps.length then (setL S (keyS f) (hput h p.i.toNat p.text).1, [], false, 0)
  else (delL S (keyS f), textOf (hput h p.i.toNat p.text).1, true, 0)
def begin_ (S : St) (f : List UInt8) (p : PartD) : St × List UInt8 × Bool × Nat :=
  if 32 ≤ S.length then (S, [], false, 6) else more (putL S (keyS f) (fresh p.id p.n.toNat)) f (fresh p.id p.n.toNat) p
def sput (S : St) (f : List UInt8) (p : PartD) : St × List UInt8 × Bool × Nat :=
  if may p = false then (S, [], false, 2)
  else match lookL S (keyS f) with
    | none => begin_ S f p
    | some h => if p.id < h.id then (S, [], false, 3) else if h.id < p.id then begin_ (delL S (keyS f)) f p else more S f h p
def heldS (S : St) : Nat := (S.map fun p => bytes p.2).sum
end Go.Proofs.Ytejheedekiojnaa.Sess
