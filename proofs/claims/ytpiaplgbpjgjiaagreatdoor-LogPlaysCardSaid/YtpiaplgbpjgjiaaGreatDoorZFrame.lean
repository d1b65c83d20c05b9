/-
  Frames (layer 6) on lists of bytes: what a frame is, what is cut, what is scanned; that frames are cut and scanned as they were put, and that turned ones are not. No program in sight. No condition.
-/
import Derived.BigRegion
import Derived.BigQuiet
import Derived.Test.YtpiaplgbpjgjiaaGreatDoorZCrc

section
namespace Go.Proofs.YtpiaplgbpjgjiaaGreatDoor.Frame
open Crc

def four (n : Nat) : List UInt8 := [UInt8.ofNat n, UInt8.ofNat (n / 256), UInt8.ofNat (n / 65536), UInt8.ofNat (n / 16777216)]
/-- The number of the first four bytes. -/
def number (l : List UInt8) : Nat := num (l.take 4)
def sum (size text : List UInt8) : Nat := on (on 0 size) text
def put (t : List UInt8) : List UInt8 := four t.length ++ four (sum (four t.length) t) ++ t
/-- The text, what stands behind, the error. -/
def cut (l : List UInt8) : List UInt8 × List UInt8 × Nat :=
  if l.length < 8 then ([], [], 20)
  else if 1048576 < number l then ([], [], 4)
  else if (l.drop 8).length < number l then ([], [], 20)
  else if number (l.drop 4) ≠ sum (l.take 4) ((l.drop 8).take (number l)) then ([], [], 60)
  else ((l.drop 8).take (number l), (l.drop 8).drop (number l), 0)

theorem num_lt (l : List UInt8) : num l < 256 ^ l.length := by
  induction l with
  | nil => simp [num]
  | cons c l ih => rw [num, List.length_cons, Nat.pow_succ]; have := u8_lt c; omega
theorem number_lt (l : List UInt8) : number l < 4294967296 := by
  unfold number
  have := num_lt (l.take 4)
  have h2 : (l.take 4).length ≤ 4 := List.length_take_le _ _
  have h3 : 256 ^ (l.take 4).length ≤ 256 ^ 4 := Nat.pow_le_pow_right (by omega) h2
  omega
theorem four_length (n : Nat) : (four n).length = 4 := rfl
theorem number_four (n : Nat) (h : n < 4294967296) (r : List UInt8) : number (four n ++ r) = n := by
  simp [number, four, num]
  omega
theorem four_inj {a b : Nat} (ha : a < 4294967296) (hb : b < 4294967296) (h : four a = four b) : a = b := by
  have h1 := number_four a ha []
  have h2 := number_four b hb []
  rw [← h1, ← h2, h]
theorem put_length (t : List UInt8) : (put t).length = 8 + t.length := by simp [put, four_length]; omega
theorem sum_lt (a b : List UInt8) : sum a b < 4294967296 := on_lt (on_lt (by omega) _) _
theorem sum_eq (a b : List UInt8) : sum a b = on 0 (a ++ b) := on_append 0 a b
theorem put_append (t r : List UInt8) : put t ++ r = four t.length ++ (four (sum (four t.length) t) ++ (t ++ r)) := by simp [put]
/-- What the head of such bytes says. -/
theorem head_take4 (n : Nat) (m : Nat) (x : List UInt8) : (four n ++ (four m ++ x)).take 4 = four n := by simp [four]
theorem head_drop4 (n : Nat) (m : Nat) (x : List UInt8) : (four n ++ (four m ++ x)).drop 4 = four m ++ x := by simp [four]
theorem head_drop8 (n : Nat) (m : Nat) (x : List UInt8) : (four n ++ (four m ++ x)).drop 8 = x := by simp [four]
theorem cut_head (n m : Nat) (x : List UInt8) (hn : n < 4294967296) (hm : m < 4294967296) : cut (four n ++ (four m ++ x)) =
    if 1048576 < n then ([], [], 4) else if x.length < n then ([], [], 20) else if m ≠ sum (four n) (x.take n) then ([], [], 60) else (x.take n, x.drop n, 0) := by
  unfold cut
  rw [number_four n hn, head_drop4, head_drop8, head_take4, number_four m hm]
  rw [if_neg (by simp [four_length]; omega)]
theorem cut_put (t r : List UInt8) (h : t.length ≤ 1048576) : cut (put t ++ r) = (t, r, 0) := by
  rw [put_append, cut_head _ _ _ (by omega) (sum_lt _ _), if_neg (by omega), if_neg (by simp), if_neg (by simp)]
  simp
theorem cut_put_nil (t : List UInt8) (h : t.length ≤ 1048576) : cut (put t) = (t, [], 0) := by
  have := cut_put t [] h
  rwa [List.append_nil] at this
/-- Of the beginning of a frame nothing is cut. -/
theorem cut_short (t : List UInt8) (k : Nat) (h : t.length ≤ 1048576) (hk : k < 8 + t.length) : cut ((put t).take k) = ([], [], 20) := by
  by_cases h8 : k < 8
  · unfold cut
    rw [if_pos (by rw [List.length_take]; omega)]
  · have e : (put t).take k = four t.length ++ (four (sum (four t.length) t) ++ t.take (k - 8)) := by
      have := put_append t []
      rw [List.append_nil, List.append_nil] at this
      rw [this, List.take_append, List.take_append, four_length, List.take_of_length_le (by rw [four_length]; omega), four_length, List.take_of_length_le (by rw [four_length]; omega), show k - 4 - 4 = k - 8 from by omega]
    rw [e, cut_head _ _ _ (by omega) (sum_lt _ _), if_neg (by omega), if_pos (by rw [List.length_take]; omega)]
theorem put_inj {a b : List UInt8} (ha : a.length ≤ 1048576) (hb : b.length ≤ 1048576) : put a = put b ↔ a = b := by
  refine ⟨fun h => ?_, fun h => by rw [h]⟩
  have h1 := cut_put_nil a ha
  rw [h, cut_put_nil b hb] at h1
  exact (Prod.mk.inj h1).1.symm
/-- What is cut is a frame, or an error. -/
theorem cut_rest (l : List UInt8) : (cut l).2.2 = 0 → l.length = 8 + (cut l).1.length + (cut l).2.1.length := by
  unfold cut
  split
  · simp
  · split
    · simp
    · split
      · simp
      · split
        · simp
        · intro _
          rename_i h1 _ h3 _
          simp at h3 ⊢
          omega
theorem cut_behind (l : List UInt8) : (cut l).2.2 = 0 → (cut l).2.1 = l.drop (8 + (cut l).1.length) := by
  unfold cut
  split
  · simp
  · split
    · simp
    · split
      · simp
      · split
        · simp
        · intro _
          rename_i h1 _ h3 _
          simp only [List.drop_drop, List.length_take]
          congr 1
          omega
theorem cut_err (l : List UInt8) : (cut l).2.2 = 0 ∨ (cut l).2.2 = 4 ∨ (cut l).2.2 = 20 ∨ (cut l).2.2 = 60 := by
  unfold cut
  split
  · simp
  · split
    · simp
    · split
      · simp
      · split
        · simp
        · simp
theorem cut_bad (l : List UInt8) (h : (cut l).2.2 ≠ 0) : (cut l).1 = [] ∧ (cut l).2.1 = [] := by
  unfold cut at h ⊢
  split
  · simp
  · split
    · simp
    · split
      · simp
      · split
        · simp
        · rename_i h1 h2 h3 h4
          rw [if_neg h1, if_neg h2, if_neg h3, if_neg h4] at h
          exact absurd rfl h

/-! ### Frame by frame -/
def scan : Nat → List UInt8 → List (List UInt8) × List UInt8 × Nat
  | 0, l => ([], l, 0)
  | f + 1, l => if l = [] then ([], [], 0) else if (cut l).2.2 = 0 then ((cut l).1 :: (scan f (cut l).2.1).1, (scan f (cut l).2.1).2) else ([], l, (cut l).2.2)
theorem scan_more (f g : Nat) (l : List UInt8) (hf : l.length ≤ f) (hg : l.length ≤ g) : scan f l = scan g l := by
  induction f generalizing l g with
  | zero =>
    have : l = [] := List.length_eq_zero_iff.1 (by omega)
    subst this
    cases g <;> simp [scan]
  | succ f ih =>
    cases g with
    | zero =>
      have : l = [] := List.length_eq_zero_iff.1 (by omega)
      subst this
      simp [scan]
    | succ g =>
      unfold scan
      split
      · rfl
      · split
        · rename_i h1 h2
          have := cut_rest l h2
          rw [ih g (cut l).2.1 (by omega) (by omega)]
        · rfl
/-- All frames of bytes: the texts, what is left, the error. -/
def scanAll (l : List UInt8) : List (List UInt8) × List UInt8 × Nat := scan l.length l
theorem scanAll_nil : scanAll [] = ([], [], 0) := rfl
theorem scanAll_bad (l : List UInt8) (h0 : l ≠ []) (h : (cut l).2.2 ≠ 0) : scanAll l = ([], l, (cut l).2.2) := by
  unfold scanAll
  cases hl : l.length with
  | zero => exact absurd (List.length_eq_zero_iff.1 hl) h0
  | succ n => rw [scan, if_neg h0, if_neg h]
theorem scanAll_good (l : List UInt8) (h0 : l ≠ []) (h : (cut l).2.2 = 0) : scanAll l = ((cut l).1 :: (scanAll (cut l).2.1).1, (scanAll (cut l).2.1).2) := by
  have hr := cut_rest l h
  unfold scanAll
  cases hl : l.length with
  | zero => exact absurd (List.length_eq_zero_iff.1 hl) h0
  | succ n =>
    rw [scan, if_neg h0, if_pos h, scan_more n (cut l).2.1.length _ (by omega) (by omega)]
theorem scanAll_left (l : List UInt8) : (scanAll l).2.1.length ≤ l.length := by
  generalize hn : l.length = n
  induction n using Nat.strongRecOn generalizing l with
  | ind n ih =>
    by_cases h0 : l = []
    · subst h0; simp [scanAll_nil]
    · by_cases h : (cut l).2.2 = 0
      · rw [scanAll_good l h0 h]
        have hr := cut_rest l h
        have := ih (cut l).2.1.length (by omega) (cut l).2.1 rfl
        simp only
        omega
      · rw [scanAll_bad l h0 h]; simp; omega
theorem scanAll_count (l : List UInt8) : (scanAll l).1.length ≤ l.length := by
  generalize hn : l.length = n
  induction n using Nat.strongRecOn generalizing l with
  | ind n ih =>
    by_cases h0 : l = []
    · subst h0; simp [scanAll_nil]
    · by_cases h : (cut l).2.2 = 0
      · rw [scanAll_good l h0 h]
        have hr := cut_rest l h
        have := ih (cut l).2.1.length (by omega) (cut l).2.1 rfl
        simp only [List.length_cons]
        omega
      · rw [scanAll_bad l h0 h]; simp
/-- Frames, put one behind the other. -/
def puts (ts : List (List UInt8)) : List UInt8 := (ts.map put).flatten
theorem puts_nil : puts [] = [] := rfl
theorem puts_cons (t : List UInt8) (ts : List (List UInt8)) : puts (t :: ts) = put t ++ puts ts := by simp [puts]
theorem puts_snoc (ts : List (List UInt8)) (t : List UInt8) : puts (ts ++ [t]) = puts ts ++ put t := by simp [puts]
theorem put_ne (t : List UInt8) : put t ≠ [] := fun h => by have := put_length t; rw [h] at this; simp at this; omega
theorem scanAll_puts (ts : List (List UInt8)) (h : ∀ t ∈ ts, t.length ≤ 1048576) : scanAll (puts ts) = (ts, [], 0) := by
  induction ts with
  | nil => rfl
  | cons t ts ih =>
    have hc := cut_put t (puts ts) (h t (by simp))
    rw [puts_cons, scanAll_good _ (by simp [put_ne]) (by rw [hc]), hc]
    simp only
    rw [ih (fun x hx => h x (by simp [hx]))]
theorem drop_len (a b : List UInt8) (n : Nat) : (a ++ b).drop (a.length + n) = b.drop n := by
  rw [List.drop_append, List.drop_eq_nil_of_le (by omega)]; simp
/-- What is cut off in the middle of frames is scanned as the whole ones ahead of it. -/
theorem scanAll_take (ts : List (List UInt8)) (h : ∀ t ∈ ts, t.length ≤ 1048576) (k : Nat) (hk : k ≤ (puts ts).length) :
    ∃ m e : Nat, m ≤ ts.length ∧ (puts (ts.take m)).length ≤ k ∧ (m = ts.length ∨ ∃ t, ts[m]? = some t ∧ k < (puts (ts.take m)).length + (put t).length) ∧
      (e = 0 ↔ k = (puts (ts.take m)).length) ∧ (e = 0 ∨ e = 20) ∧ scanAll ((puts ts).take k) = (ts.take m, ((puts ts).take k).drop (puts (ts.take m)).length, e) := by
  induction ts generalizing k with
  | nil =>
    have : k = 0 := by simpa [puts] using hk
    subst this
    exact ⟨0, 0, by simp, by simp [puts], Or.inl rfl, by simp [puts], by simp, by simp [puts, scanAll_nil]⟩
  | cons t ts ih =>
    have ht := h t (by simp)
    have hl := put_length t
    by_cases hlt : k < (put t).length
    · have e : (puts (t :: ts)).take k = (put t).take k := by
        rw [puts_cons, List.take_append, show k - (put t).length = 0 from by omega]; simp
      by_cases h0 : k = 0
      · subst h0
        exact ⟨0, 0, by simp, by simp [puts], Or.inr ⟨t, by simp, by simp [puts]; omega⟩, by simp [puts], by simp, by simp [scanAll_nil]⟩
      · have hc := cut_short t k ht (by omega)
        refine ⟨0, 20, by simp, by simp [puts], Or.inr ⟨t, by simp, by simp [puts]; exact hlt⟩, by simp [puts]; omega, by simp, ?_⟩
        rw [e, scanAll_bad _ (fun h => by rw [List.take_eq_nil_iff] at h; rcases h with h | h; exact h0 h; exact put_ne t h) (by rw [hc]; decide), hc]
        simp [puts]
    · obtain ⟨m, e, h1, h2, h3, h4, h5, h6⟩ := ih (fun x hx => h x (by simp [hx])) (k - (put t).length) (by rw [puts_cons] at hk; simp at hk; omega)
      refine ⟨m + 1, e, by clear h3; simp; omega, by clear h3; simp [puts_cons]; omega, ?_, ?_, h5, ?_⟩
      · rcases h3 with h3 | ⟨x, hx, hx2⟩
        · exact Or.inl (by simp [h3])
        · refine Or.inr ⟨x, by simpa using hx, ?_⟩
          rw [List.take_succ_cons, puts_cons, List.length_append]
          omega
      · clear h3; rw [h4, List.take_succ_cons, puts_cons, List.length_append]; omega
      · clear h3
        have e2 : (puts (t :: ts)).take k = put t ++ (puts ts).take (k - (put t).length) := by
          rw [puts_cons, List.take_append, List.take_of_length_le (by omega)]
        have hc := cut_put t ((puts ts).take (k - (put t).length)) ht
        rw [e2, scanAll_good _ (by simp [put_ne]) (by rw [hc]), hc]
        simp only [List.take_succ_cons, puts_cons]
        rw [h6, List.length_append, drop_len]
/-- A frame of which bits of the text were turned that lie within 32 in a row. -/
theorem cut_turned (t u : List UInt8) (h : u.length = t.length) (hl : t.length ≤ 1048576) (at_ bits : Nat) (hb : bits < 4294967296) (hx : num u = num t ^^^ 2 ^ at_ * bits) (hat : at_ ≤ 8 * t.length) :
    cut (four t.length ++ (four (sum (four t.length) t) ++ u)) = if bits = 0 then (u, [], 0) else ([], [], 60) := by
  rw [cut_head _ _ _ (by omega) (sum_lt _ _), if_neg (by omega), if_neg (by omega), List.take_of_length_le (by omega), List.drop_eq_nil_of_le (by omega)]
  have hn : num (four t.length ++ u) = num (four t.length ++ t) ^^^ 2 ^ (32 + at_) * bits := by
    have e : ∀ v : List UInt8, num (four t.length ++ v) = 2 ^ 32 * num v ^^^ num (four t.length) := by
      intro v
      have hlt := num_lt (four t.length)
      rw [← join 32 _ _ (by rw [four_length] at hlt; omega)]
      simp [four, num]; omega
    rw [e u, e t, hx, mul_xor, Nat.xor_assoc, Nat.xor_assoc, Nat.xor_comm (2 ^ 32 * (2 ^ at_ * bits)), Nat.pow_add, Nat.mul_assoc]
  have hbst := on_burst (four t.length ++ t) (four t.length ++ u) (by simp [h]) (32 + at_) bits hb hn (by simp [four_length]; omega)
  rw [← sum_eq, ← sum_eq] at hbst
  by_cases h0 : bits = 0
  · rw [if_pos h0, if_neg (by rw [hbst.2 h0]; simp)]
  · rw [if_neg h0, if_pos (fun e => h0 (hbst.1 e.symm))]
end Go.Proofs.YtpiaplgbpjgjiaaGreatDoor.Frame
end

/-
  The walks of layer 6: four, number, sum, Put, Cut, Size, and the document's own: each answers what Frame's function of the same name tells; under the sum's table.
-/
section
open Go Go.RowKit
namespace Go.Proofs.YtpiaplgbpjgjiaaGreatDoor.Frame
open Base Crc

theorem four_calls (n : Nat) (w : World) :
    Calls Tryz.prog 62 #[.int .u32 n] w fun e w' => e = .returned (.string (B (four n))) ∧ Below w.heap.size w w' := by
  have hb := (bytesAt_cells w (four n) 5 #[.int .u8 ((n : Int) % 256), .int .u8 ((n : Int) / 256 % 256), .int .u8 ((n : Int) / 65536 % 256), .int .u8 ((n : Int) / 16777216 % 256)] (by simp [four])).back (P := Tryz.prog) 74 9 5 4 4 rfl Tryz.underlying74 Tryz.underlying5 Tryz.underlying9
  go_enter Tryz.func62, Tryz.ntmps62
  go_wp2
  go_ret
  exact ⟨rfl, (Below.refl _ _).alloc (Nat.le_refl _) _⟩
theorem number_ops (l : List UInt8) (h : 4 ≤ l.length) :
    bits .or .u32 (bits .or .u32 (bits .or .u32 ((l[0].toNat : Int) % 4294967296) ((l[1].toNat : Int) % 4294967296 * 256 % 4294967296)) ((l[2].toNat : Int) % 4294967296 * 65536 % 4294967296)) ((l[3].toNat : Int) % 4294967296 * 16777216 % 4294967296) = ((number l : Nat) : Int) := by
  have h0 := u8_lt l[0]
  have h1 := u8_lt l[1]
  have h2 := u8_lt l[2]
  have h3 := u8_lt l[3]
  have hn : number l = l[0].toNat + 256 * (l[1].toNat + 256 * (l[2].toNat + 256 * (l[3].toNat + 256 * 0))) := by
    match l, h with
    | a :: b :: c :: d :: r, _ => simp [number, num]
  rw [hn]
  generalize l[0].toNat = a at *
  generalize l[1].toNat = b at *
  generalize l[2].toNat = c at *
  generalize l[3].toNat = d at *
  have e1 := u32_or_nat a (b * 256) (by omega) (by omega)
  have e2 := u32_or_nat (a + b * 256) (c * 65536) (by omega) (by omega)
  have e3 := u32_or_nat (a + b * 256 + c * 65536) (d * 16777216) (by omega) (by omega)
  rw [Nat.or_comm, nat_join 8 (b * 256) a (by omega) (by omega)] at e1
  rw [Nat.or_comm, nat_join 16 (c * 65536) (a + b * 256) (by omega) (by omega)] at e2
  rw [Nat.or_comm, nat_join 24 (d * 16777216) (a + b * 256 + c * 65536) (by omega) (by omega)] at e3
  rw [show (a : Int) % 4294967296 = (a : Int) from by omega, show (b : Int) % 4294967296 * 256 % 4294967296 = ((b * 256 : Nat) : Int) from by omega, show (c : Int) % 4294967296 * 65536 % 4294967296 = ((c * 65536 : Nat) : Int) from by omega, show (d : Int) % 4294967296 * 16777216 % 4294967296 = ((d * 16777216 : Nat) : Int) from by omega]
  rw [e1, show ((b * 256 + a : Nat) : Int) = ((a + b * 256 : Nat) : Int) from by omega, e2, show ((c * 65536 + (a + b * 256) : Nat) : Int) = ((a + b * 256 + c * 65536 : Nat) : Int) from by omega, e3]
  omega
theorem number_calls (l : List UInt8) (w : World) (h : 4 ≤ l.length) (hl : l.length ≤ maxLen) :
    Calls Tryz.prog 72 #[.string (B l)] w fun e w' => e = .returned (.int .u32 (number l : Nat)) ∧ ∃ m, w' = w.drewN m := by
  unfold maxLen at hl
  have h1 : 0 < l.length := by omega
  have h2 : (1 : Int) < (l.length : Int) := by omega
  have h3 : (2 : Int) < (l.length : Int) := by omega
  have h4 : (3 : Int) < (l.length : Int) := by omega
  have e := Lib.hid (number_ops l h)
  go_enter Tryz.func72, Tryz.ntmps72
  go_wp2
  go_region
  go_wp2
  go_ret
  exact ⟨congrArg (fun n => Ending.returned (Value.int .u32 n)) e.out, 1, rfl⟩
theorem refnumber_calls (l : List UInt8) (w : World) (h : 4 ≤ l.length) (hl : l.length ≤ maxLen) :
    Calls Tryz.prog 73 #[.string (B l)] w fun e w' => e = .returned (.int .u32 (number l : Nat)) ∧ ∃ m, w' = w.drewN m := by
  unfold maxLen at hl
  have h1 : 0 < l.length := by omega
  have h2 : (1 : Int) < (l.length : Int) := by omega
  have h3 : (2 : Int) < (l.length : Int) := by omega
  have h4 : (3 : Int) < (l.length : Int) := by omega
  have e := Lib.hid (number_ops l h)
  go_enter Tryz.func73, Tryz.ntmps73
  go_wp2
  go_region
  go_wp2
  go_ret
  exact ⟨congrArg (fun n => Ending.returned (Value.int .u32 n)) e.out, 1, rfl⟩
theorem refFour_calls (n : Nat) (w : World) :
    Calls Tryz.prog 65 #[.int .u32 n] w fun e w' => e = .returned (.string (B (four n))) ∧ Below w.heap.size w w' := by
  have hb := (bytesAt_cells w (four n) 5 #[.int .u8 ((n : Int) % 256), .int .u8 ((n : Int) / 256 % 256), .int .u8 ((n : Int) / 65536 % 256), .int .u8 ((n : Int) / 16777216 % 256)] (by simp [four])).back (P := Tryz.prog) 74 9 5 4 4 rfl Tryz.underlying74 Tryz.underlying5 Tryz.underlying9
  go_enter Tryz.func65, Tryz.ntmps65
  go_wp2
  go_ret
  exact ⟨rfl, (Below.refl _ _).alloc (Nat.le_refl _) _⟩
theorem sum_calls (a b : List UInt8) (w : World) (ha : a.length ≤ maxLen) (hb : b.length ≤ maxLen) (hT : TabOk w) :
    Calls Tryz.prog 63 #[.string (B a), .string (B b)] w fun e w' => e = .returned (.int .u32 (sum a b : Nat)) ∧ w = w' := by
  have HT := Lib.hid hT
  clear hT
  go_enter Tryz.func63, Tryz.ntmps63
  go_wp2_with (first | (go_at_call 75; refine (Of_B _ _ ha HT.out).mono ?_; rintro e w' ⟨rfl, rfl⟩) | (go_at_call 74; refine (On_B _ _ _ hb (on_lt (by decide) _) HT.out).mono ?_; rintro e w' ⟨rfl, rfl⟩))
  go_ret
  exact ⟨rfl, rfl⟩
theorem Put_calls (t : List UInt8) (w : World) (ht : t.length ≤ 1048576) (hT : TabOk w) :
    Calls Tryz.prog 35 #[.string (B t)] w fun e w' => e = .returned (.tuple #[.string (B (put t)), .int .i64 0]) ∧ Below w.heap.size w w' := by
  have HT := Lib.hid hT
  clear hT
  have hm : t.length ≤ maxLen := by unfold maxLen; omega
  have h4 : (four t.length).length ≤ maxLen := by rw [four_length]; decide
  have e4 := four_length
  go_enter Tryz.func35, Tryz.ntmps35
  go_wp2_with fail
  refine (four_calls _ _).mono ?_
  rintro e w1 ⟨rfl, hb1⟩
  have HT1 := Lib.hid (HT.out.next hb1)
  go_wp2_with fail
  refine (sum_calls _ _ _ h4 hm HT1.out).mono ?_
  rintro e w2 ⟨rfl, rfl⟩
  go_wp2_with fail
  refine (four_calls _ _).mono ?_
  rintro e w3 ⟨rfl, hb3⟩
  go_wp2
  go_ret2
  exact ⟨by rw [put, List.append_assoc]; rfl, hb1.trans (hb3.mono hb1.size)⟩
theorem Put_long (t : List UInt8) (w : World) (ht : 1048576 < t.length) (hm : t.length ≤ maxLen) :
    Calls Tryz.prog 35 #[.string (B t)] w fun e w' => e = .returned (.tuple #[.string ⟨#[]⟩, .int .i64 4]) ∧ w = w' := by
  unfold maxLen at hm
  go_enter Tryz.func35, Tryz.ntmps35
  go_wp2
  go_ret2
  exact ⟨rfl, rfl⟩
theorem refPut_calls (t : List UInt8) (w : World) (ht : t.length ≤ 1048576) :
    Calls Tryz.prog 41 #[.string (B t)] w fun e w' => e = .returned (.string (B (put t))) ∧ Below w.heap.size w w' := by
  have hm : (four t.length ++ t).length ≤ maxLen := by rw [List.length_append, four_length]; unfold maxLen; omega
  have e4 := four_length
  have hs := sum_eq (four t.length) t
  go_enter Tryz.func41, Tryz.ntmps41
  go_wp2_with fail
  refine (refFour_calls _ _).mono ?_
  rintro e w1 ⟨rfl, hb1⟩
  go_wp2_with fail
  refine (refOf_B _ _ hm).mono ?_
  rintro e w2 ⟨rfl, rfl⟩
  rw [← hs]
  clear hs
  go_wp2_with fail
  refine (refFour_calls _ _).mono ?_
  rintro e w3 ⟨rfl, hb3⟩
  go_wp2
  go_ret
  exact ⟨by rw [put, List.append_assoc]; rfl, hb1.trans (hb3.mono hb1.size)⟩
end Go.Proofs.YtpiaplgbpjgjiaaGreatDoor.Frame
end

/-
  The walks of layer 6: Cut, and the document's own: what Frame.cut tells; under the sum's table.
-/
section
open Go Go.RowKit
namespace Go.Proofs.YtpiaplgbpjgjiaaGreatDoor.Frame
open Base Crc

set_option maxHeartbeats 400000 in
theorem Cut_calls (l : List UInt8) (w : World) (hl : l.length ≤ maxLen) (hT : TabOk w) :
    Calls Tryz.prog 56 #[.string (B l)] w fun e w' => e = .returned (.tuple #[.string (B (cut l).1), .string (B (cut l).2.1), .int .i64 ((cut l).2.2 : Nat)]) ∧ ∃ m, w' = w.drewN m := by
  have HT := Lib.hid hT
  clear hT
  have hl' := hl
  unfold maxLen at hl'
  by_cases h8 : l.length < 8
  · have hc := Lib.hid (show cut l = ([], [], 20) from by unfold cut; rw [if_pos h8])
    go_enter Tryz.func56, Tryz.ntmps56
    go_wp2
    go_ret3
    exact ⟨by rw [hc.out]; rfl, 0, rfl⟩
  · have hnl := number_lt l
    have hnc := fun n => number_calls l (w.drewN n) (by omega) hl
    have h8i : (8 : Int) ≤ (l.length : Int) := by omega
    by_cases hn : 1048576 < number l
    · have hc := Lib.hid (show cut l = ([], [], 4) from by unfold cut; rw [if_neg h8, if_pos hn])
      generalize number l = n at *
      go_enter Tryz.func56, Tryz.ntmps56
      go_wp2
      go_quiet ((go_at_call 72; exact Calls.quiet_of (hnc _)))
      go_wp2
      go_ret3
      exact ⟨by rw [hc.out]; rfl, _, rfl⟩
    · by_cases hs : l.length - 8 < number l
      · have hc := Lib.hid (show cut l = ([], [], 20) from by unfold cut; rw [if_neg h8, if_neg hn, if_pos (by simpa using hs)])
        generalize number l = n at *
        go_enter Tryz.func56, Tryz.ntmps56
        go_wp2
        go_quiet ((go_at_call 72; exact Calls.quiet_of (hnc _)))
        go_wp2
        go_ret3
        exact ⟨by rw [hc.out]; rfl, _, rfl⟩
      · have hm4 : (l.take 4).length ≤ maxLen := by rw [List.length_take]; omega
        have hmt : ((l.drop 8).take (number l)).length ≤ maxLen := by rw [List.length_take, List.length_drop]; omega
        have hsu := fun W hT => sum_calls (l.take 4) ((l.drop 8).take (number l)) W hm4 hmt hT
        have hn4 := fun W => number_calls (l.drop 4) W (by rw [List.length_drop]; omega) (by rw [List.length_drop]; omega)
        have ek : List.take (l.length - 8) (List.drop 8 l) = List.drop 8 l := List.take_of_length_le (by simp)
        have ek4 : List.take (l.length - 4) (List.drop 4 l) = List.drop 4 l := List.take_of_length_le (by simp)
        by_cases he : number (l.drop 4) = sum (l.take 4) ((l.drop 8).take (number l))
        · have hc := Lib.hid (show cut l = ((l.drop 8).take (number l), (l.drop 8).drop (number l), 0) from by unfold cut; rw [if_neg h8, if_neg hn, if_neg (by simpa using hs), if_neg (by simpa using he)])
          rw [← he] at hsu
          have hb : (((number (l.drop 4) : Nat) : Int) != ((number (l.drop 4) : Nat) : Int)) = false := by simp
          generalize number (l.drop 4) = x at *
          generalize number l = n at *
          clear he
          go_enter Tryz.func56, Tryz.ntmps56
          go_wp2
          go_quiet ((go_at_call 72; exact Calls.quiet_of (hnc _)))
          go_wp2
          go_region
          go_wp2
          generalize hw2 : (w.drewN nq).drew = w2
          have hT2 : TabOk w2 := by rw [← hw2]; exact HT.out
          have HW2 := Lib.hid hw2
          have HT2 := Lib.hid hT2
          clear hw2 hT2
          go_quiet (first | (go_at_call 72; exact Calls.quiet_of (hn4 _)) | (go_at_call 63; exact quiet (hsu _ (HT2.out.drewN _))))
          go_wp2
          go_ret3
          exact ⟨by rw [hc.out]; simp, _, by rw [← HW2.out]; exact drawn_more _ _ _⟩
        · have hc := Lib.hid (show cut l = ([], [], 60) from by unfold cut; rw [if_neg h8, if_neg hn, if_neg (by simpa using hs), if_pos he])
          have hb : (((number (l.drop 4) : Nat) : Int) != ((sum (l.take 4) ((l.drop 8).take (number l)) : Nat) : Int)) = true := by simp; omega
          generalize sum (l.take 4) ((l.drop 8).take (number l)) = y at *
          generalize number (l.drop 4) = x at *
          generalize number l = n at *
          clear he
          go_enter Tryz.func56, Tryz.ntmps56
          go_wp2
          go_quiet ((go_at_call 72; exact Calls.quiet_of (hnc _)))
          go_wp2
          go_region
          go_wp2
          generalize hw2 : (w.drewN nq).drew = w2
          have hT2 : TabOk w2 := by rw [← hw2]; exact HT.out
          have HW2 := Lib.hid hw2
          have HT2 := Lib.hid hT2
          clear hw2 hT2
          go_quiet (first | (go_at_call 72; exact Calls.quiet_of (hn4 _)) | (go_at_call 63; exact quiet (hsu _ (HT2.out.drewN _))))
          go_wp2
          go_ret3
          exact ⟨by rw [hc.out]; rfl, _, by rw [← HW2.out]; exact drawn_more _ _ _⟩

set_option maxHeartbeats 400000 in
theorem refCut_calls (l : List UInt8) (w : World) (hl : l.length ≤ maxLen) :
    Calls Tryz.prog 61 #[.string (B l)] w fun e w' => e = .returned (.tuple #[.string (B (cut l).1), .string (B (cut l).2.1), .int .i64 ((cut l).2.2 : Nat)]) ∧ ∃ m, w' = w.drewN m := by
  have hl' := hl
  unfold maxLen at hl'
  by_cases h8 : l.length < 8
  · have hc := Lib.hid (show cut l = ([], [], 20) from by unfold cut; rw [if_pos h8])
    go_enter Tryz.func61, Tryz.ntmps61
    go_wp2
    go_ret3
    exact ⟨by rw [hc.out]; rfl, 0, rfl⟩
  · have hnl := number_lt l
    have hnc := refnumber_calls l w (by omega) hl
    have h8i : (8 : Int) ≤ (l.length : Int) := by omega
    by_cases hn : 1048576 < number l
    · have hc := Lib.hid (show cut l = ([], [], 4) from by unfold cut; rw [if_neg h8, if_pos hn])
      generalize number l = n at *
      go_enter Tryz.func61, Tryz.ntmps61
      go_wp2_with (go_at_call 73; refine hnc.mono ?_; rintro e w1 ⟨rfl, hw1⟩; have HW1 := Lib.hid hw1; clear hw1)
      go_ret3
      exact ⟨by rw [hc.out]; rfl, HW1.out⟩
    · by_cases hs : l.length - 8 < number l
      · have hc := Lib.hid (show cut l = ([], [], 20) from by unfold cut; rw [if_neg h8, if_neg hn, if_pos (by simpa using hs)])
        generalize number l = n at *
        go_enter Tryz.func61, Tryz.ntmps61
        go_wp2_with (go_at_call 73; refine hnc.mono ?_; rintro e w1 ⟨rfl, hw1⟩; have HW1 := Lib.hid hw1; clear hw1)
        go_ret3
        exact ⟨by rw [hc.out]; rfl, HW1.out⟩
      · have hm : (l.take 4 ++ (l.drop 8).take (number l)).length ≤ maxLen := by rw [List.length_append, List.length_take, List.length_take, List.length_drop]; omega
        have hsu := fun W => refOf_B (l.take 4 ++ (l.drop 8).take (number l)) W hm
        have hn4 := fun W => refnumber_calls (l.drop 4) W (by rw [List.length_drop]; omega) (by rw [List.length_drop]; omega)
        have hsl : number l ≤ l.length - 8 := by omega
        have hq := Lib.hid (sum_eq (l.take 4) ((l.drop 8).take (number l)))
        by_cases he : number (l.drop 4) = sum (l.take 4) ((l.drop 8).take (number l))
        · have hc := Lib.hid (show cut l = ((l.drop 8).take (number l), (l.drop 8).drop (number l), 0) from by unfold cut; rw [if_neg h8, if_neg hn, if_neg (by simpa using hs), if_neg (by simpa using he)])
          have hb : (((number (l.drop 4) : Nat) : Int) != ((number (l.drop 4) : Nat) : Int)) = false := by simp
          rw [hq.out] at he
          rw [← he] at hsu
          generalize number (l.drop 4) = x at *
          generalize number l = n at *
          clear he
          have ek4 : List.take (l.length - 4) (List.drop 4 l) = List.drop 4 l := List.take_of_length_le (by simp)
          have ek8 : List.drop 8 (List.take (8 + n) l) = List.take n (List.drop 8 l) := by rw [List.drop_take]; congr 1; omega
          have hdec : decide ((8 : Int) + (n : Int) ≤ (l.length : Int)) = true := by simp; omega
          go_enter Tryz.func61, Tryz.ntmps61
          go_wp2_with (go_at_call 73; refine hnc.mono ?_; rintro e w1 ⟨rfl, hw1⟩; have HW1 := Lib.hid hw1; clear hw1)
          go_quiet (first | (go_at_call 73; exact Calls.quiet_of (hn4 _)) | (go_at_call 66; exact quiet (hsu _)))
          go_wp2
          go_region
          go_wp2
          go_ret3
          refine ⟨by rw [hc.out, ← ek8]; simp, ?_⟩
          obtain ⟨m, hm1⟩ := HW1.out
          exact ⟨_, by rw [hm1, World.drewN_drewN]; exact World.drew_drewN _ _⟩
        · have hc := Lib.hid (show cut l = ([], [], 60) from by unfold cut; rw [if_neg h8, if_neg hn, if_neg (by simpa using hs), if_pos he])
          have hb : (((number (l.drop 4) : Nat) : Int) != ((sum (l.take 4) ((l.drop 8).take (number l)) : Nat) : Int)) = true := by simp; omega
          rw [← hq.out] at hsu
          generalize sum (l.take 4) ((l.drop 8).take (number l)) = y at *
          generalize number (l.drop 4) = x at *
          generalize number l = n at *
          clear he
          have ek4 : List.take (l.length - 4) (List.drop 4 l) = List.drop 4 l := List.take_of_length_le (by simp)
          have ek8 : List.drop 8 (List.take (8 + n) l) = List.take n (List.drop 8 l) := by rw [List.drop_take]; congr 1; omega
          have hdec : decide ((8 : Int) + (n : Int) ≤ (l.length : Int)) = true := by simp; omega
          go_enter Tryz.func61, Tryz.ntmps61
          go_wp2_with (go_at_call 73; refine hnc.mono ?_; rintro e w1 ⟨rfl, hw1⟩; have HW1 := Lib.hid hw1; clear hw1)
          go_quiet (first | (go_at_call 73; exact Calls.quiet_of (hn4 _)) | (go_at_call 66; exact quiet (hsu _)))
          go_wp2
          go_ret3
          refine ⟨by rw [hc.out]; rfl, ?_⟩
          obtain ⟨m, hm1⟩ := HW1.out
          exact ⟨_, by rw [hm1, World.drewN_drewN]⟩
end Go.Proofs.YtpiaplgbpjgjiaaGreatDoor.Frame
end

/-
  The walks of layer 6: Scan, the document's own, and the laws' same; under the sum's table.
-/
section
open Go Go.RowKit
namespace Go.Proofs.YtpiaplgbpjgjiaaGreatDoor.Frame
open Base Crc

/-- Texts as values. -/
def strs (l : List (List UInt8)) : List Value := l.map fun t => .string (B t)
theorem strs_length (l : List (List UInt8)) : (strs l).length = l.length := by simp [strs]
theorem strs_snoc (l : List (List UInt8)) (t : List UInt8) : strs (l ++ [t]) = strs l ++ [.string (B t)] := by simp [strs]
theorem strs_at (l : List (List UInt8)) (j : Nat) (h : j < l.length) : (strs l)[j]'(by rw [strs_length]; exact h) = .string (B l[j]) := by simp [strs]

theorem infoS : (Tryz.prog.info? 9).map (fun i => (i.zero, i.size, i.bytes)) = some (some (.string ⟨#[]⟩), 1, 16) := by kernel_rfl

/-- How a scan stands in the middle: what is left, and the texts that came. -/
structure Scanning (l : List UInt8) (ts : List (List UInt8)) (r : List UInt8) (v : Value) (w0 wr : World) : Prop where
  eq : scanAll l = (ts ++ (scanAll r).1, (scanAll r).2)
  own : wr.ownsRow w0.heap.size 9 1 v ts.length (strs ts)
  below : Below w0.heap.size w0 wr
  len : r.length + 8 * ts.length ≤ l.length
theorem Scanning.start (l : List UInt8) (w : World) : Scanning l [] l (.slice none 0 0) w w := ⟨by simp, World.ownsRow_nil _ _ _ _, Below.refl _ _, by simp⟩
theorem Scanning.next {l r : List UInt8} {ts : List (List UInt8)} {v v' : Value} {w0 wr w1 w2 : World} (h : Scanning l ts r v w0 wr) (h0 : r ≠ []) (hc : (cut r).2.2 = 0) (hb : Below wr.heap.size wr w1)
    (hown : w2.ownsRow w0.heap.size 9 1 v' (ts.length + 1) (strs ts ++ [.string (B (cut r).1)])) (hg : w1.grownBy w2 v.ownBlock) : Scanning l (ts ++ [(cut r).1]) (cut r).2.1 v' w0 w2 := by
  refine ⟨?_, ?_, ?_, ?_⟩
  · rw [h.eq, scanAll_good r h0 hc]; simp
  · rw [strs_snoc, List.length_append]; exact hown
  · exact (h.below.trans (hb.mono h.below.size)).grown hg (Nat.le_trans h.below.size hb.size) (fun k hk => (h.own.lt k hk).1)
  · have h1 := cut_rest r hc
    have h2 := h.len
    simp only [List.length_append, List.length_cons, List.length_nil]
    omega

set_option maxHeartbeats 1000000 in
set_option maxRecDepth 100000 in
theorem Scan_calls (l : List UInt8) (w : World) (hl : l.length ≤ 1048576) (hT : TabOk w) :
    Calls Tryz.prog 25 #[.string (B l)] w fun e w' => ∃ v, e = .returned (.tuple #[v, .int .i64 ((l.length : Int) - ((scanAll l).2.1.length : Nat)), .int .i64 ((scanAll l).2.2 : Nat)]) ∧
      w'.ownsRow w.heap.size 9 1 v (scanAll l).1.length (strs (scanAll l).1) ∧ Below w.heap.size w w' := by
  have HT := Lib.hid hT
  clear hT
  obtain ⟨i0, hi, hz0, hz1, hz2⟩ := info_parts infoS
  go_enter Tryz.func25, Tryz.ntmps25
  go_wp2
  go_step3
  go_wp2
  go_step3
  go_wp2
  have hle := scanAll_left l
  go_loopw [2, 4, 5] (fun v ee x wr => ∃ (ts : List (List UInt8)) (r : List UInt8), ee = .int .i64 0 ∧ x = .string (B r) ∧ Scanning l ts r v w wr) (fun _ _ x _ => (match x with | .string s => s.size | _ => 0))
  case atStart => exact ⟨[], l, rfl, rfl, Scanning.start l w⟩
  case round =>
    obtain ⟨ts, r, rfl, rfl, hs⟩ := hrel
    have HS := Lib.hid hs
    have hrl := hs.len
    have hT2 := HT.out.next hs.below
    have HT2 := Lib.hid hT2
    clear hs hT2
    by_cases h0 : r = []
    · subst h0
      have hb : (B []).toList = [] := B_toList []
      have he := HS.out.eq
      rw [scanAll_nil, List.append_nil] at he
      have HE := Lib.hid he
      clear he
      go_wp2
      go_ret3
      exact ⟨u2, by rw [HE.out]; simp, by rw [HE.out]; exact HS.out.own, HS.out.below⟩
    · have hbn : r.isEmpty = false := by cases r <;> simp_all
      by_cases hc : (cut r).2.2 = 0
      · have HN := Lib.hid (fun v' w1 w2 => HS.out.next (v' := v') (w1 := w1) (w2 := w2) h0 hc)
        have hrest := cut_rest r hc
        go_wp2_with fail
        refine (Cut_calls r wr (by unfold maxLen; omega) HT2.out).mono ?_
        rintro e w1 ⟨rfl, hw1⟩
        rw [hc]
        have hb1 : Below wr.heap.size wr w1 := by obtain ⟨m, rfl⟩ := hw1; exact (Below.refl _ _).drewN m
        have hown : w1.ownsRow w.heap.size 9 1 u2 ts.length (strs ts) := own_next HS.out.own hb1
        have hsz : w.heap.size ≤ w1.heap.size := Nat.le_trans HS.out.below.size hb1.size
        have HB1 := Lib.hid hb1
        clear hw1 hb1 hc
        generalize (cut r).1 = t at *
        generalize (cut r).2.1 = r2 at *
        have hts : ts.length ≤ 1048576 := by omega
        clear h0 hbn
        go_wp2_with (at_builtin; refine wpList_append_own _ rfl _ _ 33 rfl w.heap.size 9 i0 (.string ⟨#[]⟩) 1 16 Tryz.underlying33 hi hz0 hz1 hz2 rfl (by decide) _ _ _ rfl (hown.alloc _) ⟨w1.heap.size, 0, none⟩ 1 1 [.string (B t)] rfl rfl ?c1 ?c2 ?c3 ?c4 ?c5 ?_)
        case c1 => exact cell_one_new _ _ _
        case c2 => simp [Value.oneCell']
        case c3 => unfold maxLen; omega
        case c4 => omega
        case c5 => simp; omega
        intro v' w2 hown2 hg2 _
        have HN2 := Lib.hid (HN.out _ _ _ (HB1.out.alloc HB1.out.size _) hown2 hg2)
        clear hown2 hg2 hown
        go_wp2
        go_roundw
        case rel => exact ⟨ts ++ [t], r2, rfl, rfl, HN2.out⟩
        case measure => simp [B_size]; omega
      · have hbad := scanAll_bad r h0 hc
        have he := HS.out.eq
        rw [hbad, List.append_nil] at he
        have HE := Lib.hid he
        have HC := Lib.hid (cut_err r)
        have hcz : (((cut r).2.2 : Nat) : Int) ≠ 0 := by omega
        have hcb : ((((cut r).2.2 : Nat) : Int) == 0) = false := beq_eq_false_iff_ne.2 hcz
        clear hbad he hc h0
        go_wp2_with fail
        refine (Cut_calls r wr (by unfold maxLen; omega) HT2.out).mono ?_
        rintro e w1 ⟨rfl, hw1⟩
        have HW := Lib.hid hw1
        clear hw1
        generalize (cut r).1 = t at *
        generalize (cut r).2.1 = r2 at *
        generalize (cut r).2.2 = ee at *
        go_wp2
        rw [Exit.noGoto_ret]
        go_ret3
        obtain ⟨m, rfl⟩ := HW.out
        exact ⟨u2, by rw [HE.out]; rfl, by rw [HE.out]; exact own_drewN HS.out.own m, HS.out.below.drewN m⟩

set_option maxHeartbeats 1000000 in
set_option maxRecDepth 100000 in
theorem refScan_calls (l : List UInt8) (w : World) (hl : l.length ≤ 1048576) :
    Calls Tryz.prog 31 #[.string (B l)] w fun e w' => ∃ v, e = .returned (.tuple #[v, .int .i64 ((l.length : Int) - ((scanAll l).2.1.length : Nat)), .int .i64 ((scanAll l).2.2 : Nat)]) ∧
      w'.ownsRow w.heap.size 9 1 v (scanAll l).1.length (strs (scanAll l).1) ∧ Below w.heap.size w w' := by
  obtain ⟨i0, hi, hz0, hz1, hz2⟩ := info_parts infoS
  go_enter Tryz.func31, Tryz.ntmps31
  go_wp2
  have hle := scanAll_left l
  go_loopw [5, 6] (fun v x wr => ∃ (ts : List (List UInt8)) (g : Nat), x = .int .i64 g ∧ g ≤ l.length ∧ Scanning l ts (l.drop g) v w wr) (fun _ x _ => l.length - (intOf x).toNat)
  case atStart => exact ⟨[], 0, rfl, Nat.zero_le _, by rw [List.drop_zero]; exact Scanning.start l w⟩
  case round =>
    obtain ⟨ts, g, rfl, hg, hs⟩ := hrel
    have HS := Lib.hid hs
    have hrl := hs.len
    clear hs
    by_cases h0 : g < l.length
    · have hr : l.drop g ≠ [] := fun e => by have := List.drop_eq_nil_iff.1 e; omega
      have hdl : (l.drop g).length = l.length - g := List.length_drop
      have htk : List.drop g (List.take l.length l) = l.drop g := by rw [List.take_length]
      by_cases hc : (cut (l.drop g)).2.2 = 0
      · have HN := Lib.hid (fun v' w1 w2 => HS.out.next (v' := v') (w1 := w1) (w2 := w2) hr hc)
        have hrest := cut_rest _ hc
        have hr2 : (cut (l.drop g)).2.1 = l.drop (g + 8 + (cut (l.drop g)).1.length) := by
          have : (cut (l.drop g)).2.1 = (l.drop g).drop (8 + (cut (l.drop g)).1.length) := cut_behind _ hc
          rw [this, List.drop_drop]; congr 1; omega
        have HR := Lib.hid hr2
        clear hr2
        have hcc := fun w1 => refCut_calls (l.drop g) w1 (by unfold maxLen; omega)
        rw [hc] at hcc
        clear hc
        generalize (cut (l.drop g)).1 = t at *
        generalize (cut (l.drop g)).2.1 = r2 at *
        go_wp2_with fail
        refine (hcc wr).mono ?_
        rintro e w1 ⟨rfl, hw1⟩
        have hb1 : Below wr.heap.size wr w1 := by obtain ⟨m, rfl⟩ := hw1; exact (Below.refl _ _).drewN m
        have hown : w1.ownsRow w.heap.size 9 1 u5 ts.length (strs ts) := own_next HS.out.own hb1
        have hsz : w.heap.size ≤ w1.heap.size := Nat.le_trans HS.out.below.size hb1.size
        have HB1 := Lib.hid hb1
        have hts : ts.length ≤ 1048576 := by omega
        clear hw1 hb1 hcc htk
        go_wp2_with (at_builtin; refine wpList_append_own _ rfl _ _ 33 rfl w.heap.size 9 i0 (.string ⟨#[]⟩) 1 16 Tryz.underlying33 hi hz0 hz1 hz2 rfl (by decide) _ _ _ rfl (hown.alloc _) ⟨w1.heap.size, 0, none⟩ 1 1 [.string (B t)] rfl rfl ?c1 ?c2 ?c3 ?c4 ?c5 ?_)
        case c1 => exact cell_one_new _ _ _
        case c2 => simp [Value.oneCell']
        case c3 => unfold maxLen; omega
        case c4 => omega
        case c5 => simp; omega
        intro v' w2 hown2 hg2 _
        have HN2 := Lib.hid (HN.out _ _ _ (HB1.out.alloc HB1.out.size _) hown2 hg2)
        clear hown2 hg2 hown
        go_wp2
        go_roundw
        case rel => exact ⟨ts ++ [t], g + 8 + t.length, by go_num, by omega, by rw [← HR.out]; exact HN2.out⟩
        case measure => simp [intOf]; omega
      · have hbad := scanAll_bad _ hr hc
        have he := HS.out.eq
        rw [hbad, List.append_nil] at he
        have HE := Lib.hid he
        have HC := Lib.hid (cut_err (l.drop g))
        have hcz : (((cut (l.drop g)).2.2 : Nat) : Int) ≠ 0 := by omega
        have hcb : ((((cut (l.drop g)).2.2 : Nat) : Int) != 0) = true := by rw [bne_iff_ne]; exact hcz
        have hcc := fun w1 => refCut_calls (l.drop g) w1 (by unfold maxLen; omega)
        clear hbad he hc
        generalize (cut (l.drop g)).1 = t at *
        generalize (cut (l.drop g)).2.1 = r2 at *
        generalize (cut (l.drop g)).2.2 = ee at *
        go_wp2_with fail
        refine (hcc wr).mono ?_
        rintro e w1 ⟨rfl, hw1⟩
        have HW := Lib.hid hw1
        clear hw1
        go_wp2
        go_ret3
        obtain ⟨m, rfl⟩ := HW.out
        exact ⟨u5, by rw [HE.out, hdl]; go_num, by rw [HE.out]; exact own_drewN HS.out.own m, HS.out.below.drewN m⟩
    · have hr : l.drop g = [] := List.drop_eq_nil_of_le (by omega)
      have he := HS.out.eq
      rw [hr, scanAll_nil, List.append_nil] at he
      have HE := Lib.hid he
      have hgl : g = l.length := by omega
      clear he hr
      subst hgl
      go_wp2
      go_ret3
      exact ⟨u5, by rw [HE.out]; simp, by rw [HE.out]; exact HS.out.own, HS.out.below⟩
end Go.Proofs.YtpiaplgbpjgjiaaGreatDoor.Frame
end
