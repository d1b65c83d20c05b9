/-
  Frames (layer 6) on lists of bytes: what a frame is, what is cut, what is scanned; that frames are cut and scanned as they were put, and that turned ones are not. No program in sight. No condition.
-/
import Derived.Test.YtpiaplgbpjgjiaaDoorCrcMath
namespace Go.Proofs.YtpiaplgbpjgjiaaDoor.Frame
open Crc

def four (n : Nat) : List UInt8 := [UInt8.ofNat n, UInt8.ofNat (n / 256), UInt8.ofNat (n / 65536), UInt8.ofNat (n / 16777216)]
/-- The number of the first four bytes. -/
def number (l : List UInt8) : Nat := num (l.take 4)
def sum (size text : List UInt8) : Nat := on (on 0 size) text
def put (t : List UInt8) : List UInt8 := four t.length ++ four (sum (four t.length) t) ++ t
/-- The text, what stands behind, the error. -/
def cut (l : List UInt8) : List UInt8 × List UInt8 × Nat :=
  if l.length < 8 then ([], [], 20)
  else if 1048576 < number l then ([], [], 4)
  else if (l.drop 8).length < number l then ([], [], 20)
  else if number (l.drop 4) ≠ sum (l.take 4) ((l.drop 8).take (number l)) then ([], [], 60)
  else ((l.drop 8).take (number l), (l.drop 8).drop (number l), 0)

theorem num_lt (l : List UInt8) : num l < 256 ^ l.length := by
  induction l with
  | nil => simp [num]
  | cons c l ih => rw [num, List.length_cons, Nat.pow_succ]; have := u8_lt c; omega
theorem number_lt (l : List UInt8) : number l < 4294967296 := by
  unfold number
  have := num_lt (l.take 4)
  have h2 : (l.take 4).length ≤ 4 := List.length_take_le _ _
  have h3 : 256 ^ (l.take 4).length ≤ 256 ^ 4 := Nat.pow_le_pow_right (by omega) h2
  omega
theorem four_length (n : Nat) : (four n).length = 4 := rfl
theorem number_four (n : Nat) (h : n < 4294967296) (r : List UInt8) : number (four n ++ r) = n := by
  simp [number, four, num]
  omega
theorem four_inj {a b : Nat} (ha : a < 4294967296) (hb : b < 4294967296) (h : four a = four b) : a = b := by
  have h1 := number_four a ha []
  have h2 := number_four b hb []
  rw [← h1, ← h2, h]
theorem put_length (t : List UInt8) : (put t).length = 8 + t.length := by simp [put, four_length]; omega
theorem sum_lt (a b : List UInt8) : sum a b < 4294967296 := on_lt (on_lt (by omega) _) _
theorem sum_eq (a b : List UInt8) : sum a b = on 0 (a ++ b) := on_append 0 a b
theorem put_append (t r : List UInt8) : put t ++ r = four t.length ++ (four (sum (four t.length) t) ++ (t ++ r)) := by simp [put]
/-- What the head of such bytes says. -/
theorem head_take4 (n : Nat) (m : Nat) (x : List UInt8) : (four n ++ (four m ++ x)).take 4 = four n := by simp [four]
theorem head_drop4 (n : Nat) (m : Nat) (x : List UInt8) : (four n ++ (four m ++ x)).drop 4 = four m ++ x := by simp [four]
theorem head_drop8 (n : Nat) (m : Nat) (x : List UInt8) : (four n ++ (four m ++ x)).drop 8 = x := by simp [four]
theorem cut_head (n m : Nat) (x : List UInt8) (hn : n < 4294967296) (hm : m < 4294967296) : cut (four n ++ (four m ++ x)) =
    if 1048576 < n then ([], [], 4) else if x.length < n then ([], [], 20) else if m ≠ sum (four n) (x.take n) then ([], [], 60) else (x.take n, x.drop n, 0) := by
  unfold cut
  rw [number_four n hn, head_drop4, head_drop8, head_take4, number_four m hm]
  rw [if_neg (by simp [four_length]; omega)]
theorem cut_put (t r : List UInt8) (h : t.length ≤ 1048576) : cut (put t ++ r) = (t, r, 0) := by
  rw [put_append, cut_head _ _ _ (by omega) (sum_lt _ _), if_neg (by omega), if_neg (by simp), if_neg (by simp)]
  simp
theorem cut_put_nil (t : List UInt8) (h : t.length ≤ 1048576) : cut (put t) = (t, [], 0) := by
  have := cut_put t [] h
  rwa [List.append_nil] at this
/-- Of the beginning of a frame nothing is cut. -/
theorem cut_short (t : List UInt8) (k : Nat) (h : t.length ≤ 1048576) (hk : k < 8 + t.length) : cut ((put t).take k) = ([], [], 20) := by
  by_cases h8 : k < 8
  · unfold cut
    rw [if_pos (by rw [List.length_take]; omega)]
  · have e : (put t).take k = four t.length ++ (four (sum (four t.length) t) ++ t.take (k - 8)) := by
      have := put_append t []
      rw [List.append_nil, List.append_nil] at this
      rw [this, List.take_append, List.take_append, four_length, List.take_of_length_le (by rw [four_length]; omega), four_length, List.take_of_length_le (by rw [four_length]; omega), show k - 4 - 4 = k - 8 from by omega]
    rw [e, cut_head _ _ _ (by omega) (sum_lt _ _), if_neg (by omega), if_pos (by rw [List.length_take]; omega)]
theorem put_inj {a b : List UInt8} (ha : a.length ≤ 1048576) (hb : b.length ≤ 1048576) : put a = put b ↔ a = b := by
  refine ⟨fun h => ?_, fun h => by rw [h]⟩
  have h1 := cut_put_nil a ha
  rw [h, cut_put_nil b hb] at h1
  exact (Prod.mk.inj h1).1.symm
/-- What is cut is a frame, or an error. -/
theorem cut_rest (l : List UInt8) : (cut l).2.2 = 0 → l.length = 8 + (cut l).1.length + (cut l).2.1.length := by
  unfold cut
  split
  · simp
  · split
    · simp
    · split
      · simp
      · split
        · simp
        · intro _
          rename_i h1 _ h3 _
          simp at h3 ⊢
          omega
theorem cut_behind (l : List UInt8) : (cut l).2.2 = 0 → (cut l).2.1 = l.drop (8 + (cut l).1.length) := by
  unfold cut
  split
  · simp
  · split
    · simp
    · split
      · simp
      · split
        · simp
        · intro _
          rename_i h1 _ h3 _
          simp only [List.drop_drop, List.length_take]
          congr 1
          omega
theorem cut_err (l : List UInt8) : (cut l).2.2 = 0 ∨ (cut l).2.2 = 4 ∨ (cut l).2.2 = 20 ∨ (cut l).2.2 = 60 := by
  unfold cut
  split
  · simp
  · split
    · simp
    · split
      · simp
      · split
        · simp
        · simp
theorem cut_bad (l : List UInt8) (h : (cut l).2.2 ≠ 0) : (cut l).1 = [] ∧ (cut l).2.1 = [] := by
  unfold cut at h ⊢
  split
  · simp
  · split
    · simp
    · split
      · simp
      · split
        · simp
        · rename_i h1 h2 h3 h4
          rw [if_neg h1, if_neg h2, if_neg h3, if_neg h4] at h
          exact absurd rfl h

/-! ### Frame by frame -/
def scan : Nat → List UInt8 → List (List UInt8) × List UInt8 × Nat
  | 0, l => ([], l, 0)
  | f + 1, l => if l = [] then ([], [], 0) else if (cut l).2.2 = 0 then ((cut l).1 :: (scan f (cut l).2.1).1, (scan f (cut l).2.1).2) else ([], l, (cut l).2.2)
theorem scan_more (f g : Nat) (l : List UInt8) (hf : l.length ≤ f) (hg : l.length ≤ g) : scan f l = scan g l := by
  induction f generalizing l g with
  | zero =>
    have : l = [] := List.length_eq_zero_iff.1 (by omega)
    subst this
    cases g <;> simp [scan]
  | succ f ih =>
    cases g with
    | zero =>
      have : l = [] := List.length_eq_zero_iff.1 (by omega)
      subst this
      simp [scan]
    | succ g =>
      unfold scan
      split
      · rfl
      · split
        · rename_i h1 h2
          have := cut_rest l h2
          rw [ih g (cut l).2.1 (by omega) (by omega)]
        · rfl
/-- All frames of bytes: the texts, what is left, the error. -/
def scanAll (l : List UInt8) : List (List UInt8) × List UInt8 × Nat := scan l.length l
theorem scanAll_nil : scanAll [] = ([], [], 0) := rfl
theorem scanAll_bad (l : List UInt8) (h0 : l ≠ []) (h : (cut l).2.2 ≠ 0) : scanAll l = ([], l, (cut l).2.2) := by
  unfold scanAll
  cases hl : l.length with
  | zero => exact absurd (List.length_eq_zero_iff.1 hl) h0
  | succ n => rw [scan, if_neg h0, if_neg h]
theorem scanAll_good (l : List UInt8) (h0 : l ≠ []) (h : (cut l).2.2 = 0) : scanAll l = ((cut l).1 :: (scanAll (cut l).2.1).1, (scanAll (cut l).2.1).2) := by
  have hr := cut_rest l h
  unfold scanAll
  cases hl : l.length with
  | zero => exact absurd (List.length_eq_zero_iff.1 hl) h0
  | succ n =>
    rw [scan, if_neg h0, if_pos h, scan_more n (cut l).2.1.length _ (by omega) (by omega)]
theorem scanAll_left (l : List UInt8) : (scanAll l).2.1.length ≤ l.length := by
  generalize hn : l.length = n
  induction n using Nat.strongRecOn generalizing l with
  | ind n ih =>
    by_cases h0 : l = []
    · subst h0; simp [scanAll_nil]
    · by_cases h : (cut l).2.2 = 0
      · rw [scanAll_good l h0 h]
        have hr := cut_rest l h
        have := ih (cut l).2.1.length (by omega) (cut l).2.1 rfl
        simp only
        omega
      · rw [scanAll_bad l h0 h]; simp; omega
theorem scanAll_count (l : List UInt8) : (scanAll l).1.length ≤ l.length := by
  generalize hn : l.length = n
  induction n using Nat.strongRecOn generalizing l with
  | ind n ih =>
    by_cases h0 : l = []
    · subst h0; simp [scanAll_nil]
    · by_cases h : (cut l).2.2 = 0
      · rw [scanAll_good l h0 h]
        have hr := cut_rest l h
        have := ih (cut l).2.1.length (by omega) (cut l).2.1 rfl
        simp only [List.length_cons]
        omega
      · rw [scanAll_bad l h0 h]; simp
/-- Frames, put one behind the other. -/
def puts (ts : List (List UInt8)) : List UInt8 := (ts.map put).flatten
theorem puts_nil : puts [] = [] := rfl
theorem puts_cons (t : List UInt8) (ts : List (List UInt8)) : puts (t :: ts) = put t ++ puts ts := by simp [puts]
theorem puts_snoc (ts : List (List UInt8)) (t : List UInt8) : puts (ts ++ [t]) = puts ts ++ put t := by simp [puts]
theorem put_ne (t : List UInt8) : put t ≠ [] := fun h => by have := put_length t; rw [h] at this; simp at this; omega
theorem scanAll_puts (ts : List (List UInt8)) (h : ∀ t ∈ ts, t.length ≤ 1048576) : scanAll (puts ts) = (ts, [], 0) := by
  induction ts with
  | nil => rfl
  | cons t ts ih =>
    have hc := cut_put t (puts ts) (h t (by simp))
    rw [puts_cons, scanAll_good _ (by simp [put_ne]) (by rw [hc]), hc]
    simp only
    rw [ih (fun x hx => h x (by simp [hx]))]
theorem drop_len (a b : List UInt8) (n : Nat) : (a ++ b).drop (a.length + n) = b.drop n := by
  rw [List.drop_append, List.drop_eq_nil_of_le (by omega)]; simp
/-- What is cut off in the middle of frames is scanned as the whole ones ahead of it. -/
theorem scanAll_take (ts : List (List UInt8)) (h : ∀ t ∈ ts, t.length ≤ 1048576) (k : Nat) (hk : k ≤ (puts ts).length) :
    ∃ m e : Nat, m ≤ ts.length ∧ (puts (ts.take m)).length ≤ k ∧ (m = ts.length ∨ ∃ t, ts[m]? = some t ∧ k < (puts (ts.take m)).length + (put t).length) ∧
      (e = 0 ↔ k = (puts (ts.take m)).length) ∧ (e = 0 ∨ e = 20) ∧ scanAll ((puts ts).take k) = (ts.take m, ((puts ts).take k).drop (puts (ts.take m)).length, e) := by
  induction ts generalizing k with
  | nil =>
    have : k = 0 := by simpa [puts] using hk
    subst this
    exact ⟨0, 0, by simp, by simp [puts], Or.inl rfl, by simp [puts], by simp, by simp [puts, scanAll_nil]⟩
  | cons t ts ih =>
    have ht := h t (by simp)
    have hl := put_length t
    by_cases hlt : k < (put t).length
    · have e : (puts (t :: ts)).take k = (put t).take k := by
        rw [puts_cons, List.take_append, show k - (put t).length = 0 from by omega]; simp
      by_cases h0 : k = 0
      · subst h0
        exact ⟨0, 0, by simp, by simp [puts], Or.inr ⟨t, by simp, by simp [puts]; omega⟩, by simp [puts], by simp, by simp [scanAll_nil]⟩
      · have hc := cut_short t k ht (by omega)
        refine ⟨0, 20, by simp, by simp [puts], Or.inr ⟨t, by simp, by simp [puts]; exact hlt⟩, by simp [puts]; omega, by simp, ?_⟩
        rw [e, scanAll_bad _ (fun h => by rw [List.take_eq_nil_iff] at h; rcases h with h | h; exact h0 h; exact put_ne t h) (by rw [hc]; decide), hc]
        simp [puts]
    · obtain ⟨m, e, h1, h2, h3, h4, h5, h6⟩ := ih (fun x hx => h x (by simp [hx])) (k - (put t).length) (by rw [puts_cons] at hk; simp at hk; omega)
      refine ⟨m + 1, e, by clear h3; simp; omega, by clear h3; simp [puts_cons]; omega, ?_, ?_, h5, ?_⟩
      · rcases h3 with h3 | ⟨x, hx, hx2⟩
        · exact Or.inl (by simp [h3])
        · refine Or.inr ⟨x, by simpa using hx, ?_⟩
          rw [List.take_succ_cons, puts_cons, List.length_append]
          omega
      · clear h3; rw [h4, List.take_succ_cons, puts_cons, List.length_append]; omega
      · clear h3
        have e2 : (puts (t :: ts)).take k = put t ++ (puts ts).take (k - (put t).length) := by
          rw [puts_cons, List.take_append, List.take_of_length_le (by omega)]
        have hc := cut_put t ((puts ts).take (k - (put t).length)) ht
        rw [e2, scanAll_good _ (by simp [put_ne]) (by rw [hc]), hc]
        simp only [List.take_succ_cons, puts_cons]
        rw [h6, List.length_append, drop_len]
/-- A frame of which bits of the text were turned that lie within 32 in a row. -/
theorem cut_turned (t u : List UInt8) (h : u.length = t.length) (hl : t.length ≤ 1048576) (at_ bits : Nat) (hb : bits < 4294967296) (hx : num u = num t ^^^ 2 ^ at_ * bits) (hat : at_ ≤ 8 * t.length) :
    cut (four t.length ++ (four (sum (four t.length) t) ++ u)) = if bits = 0 then (u, [], 0) else ([], [], 60) := by
  rw [cut_head _ _ _ (by omega) (sum_lt _ _), if_neg (by omega), if_neg (by omega), List.take_of_length_le (by omega), List.drop_eq_nil_of_le (by omega)]
  have hn : num (four t.length ++ u) = num (four t.length ++ t) ^^^ 2 ^ (32 + at_) * bits := by
    have e : ∀ v : List UInt8, num (four t.length ++ v) = 2 ^ 32 * num v ^^^ num (four t.length) := by
      intro v
      have hlt := num_lt (four t.length)
      rw [← join 32 _ _ (by rw [four_length] at hlt; omega)]
      simp [four, num]; omega
    rw [e u, e t, hx, mul_xor, Nat.xor_assoc, Nat.xor_assoc, Nat.xor_comm (2 ^ 32 * (2 ^ at_ * bits)), Nat.pow_add, Nat.mul_assoc]
  have hbst := on_burst (four t.length ++ t) (four t.length ++ u) (by simp [h]) (32 + at_) bits hb hn (by simp [four_length]; omega)
  rw [← sum_eq, ← sum_eq] at hbst
  by_cases h0 : bits = 0
  · rw [if_pos h0, if_neg (by rw [hbst.2 h0]; simp)]
  · rw [if_neg h0, if_pos (fun e => h0 (hbst.1 e.symm))]
end Go.Proofs.YtpiaplgbpjgjiaaDoor.Frame
