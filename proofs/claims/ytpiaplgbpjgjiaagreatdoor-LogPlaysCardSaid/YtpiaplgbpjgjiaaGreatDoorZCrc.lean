/-
  The sum of bytes (layer 3) as plain arithmetic on numbers: one step of the register, the table's four steps at once, whole texts; that the steps are linear, and that bursts of at most 32 bits are told. No program in sight. No condition.
-/
import Derived.Test.YtpiaplgbpjgjiaaGreatDoorChecked
import Derived.WalkKit
import Derived.WalkSpells
import Derived.Outline
import Derived.Lib.Hide
import Derived.Test.YtpiaplgbpjgjiaaGreatDoorZBase

section
namespace Go.Proofs.YtpiaplgbpjgjiaaGreatDoor.Crc

/-- One step of the register, of no bit. -/
def step (r : Nat) : Nat := (r / 2) ^^^ (if r % 2 = 1 then 2197175160 else 0)
def steps : Nat → Nat → Nat
  | 0, r => r
  | n + 1, r => steps n (step r)
/-- The table. -/
def tab (i : Nat) : Nat := [0, 274646895, 549293790, 820201905, 1098587580, 1361435347, 1640403810, 1905808397, 2197175160, 2460548119, 2722870694, 2987750089, 3280807620, 3553878443, 3811616794, 4084100981].getD i 0
def nib (r : Nat) : Nat := (r / 16) ^^^ tab (r % 16)
def byte (r : Nat) (c : UInt8) : Nat := nib (nib (r ^^^ c.toNat))
def run (r : Nat) (l : List UInt8) : Nat := l.foldl byte r
def ones : Nat := 4294967295
def turnBy (t r : Nat) : Nat := t ^^^ r
def turn (r : Nat) : Nat := turnBy ones r
def on (sum : Nat) (l : List UInt8) : Nat := turn (run (turn sum) l)
/-- The bytes as one number. -/
def num : List UInt8 → Nat
  | [] => 0
  | c :: l => c.toNat + 256 * num l

theorem xor_lt {a b : Nat} (ha : a < 4294967296) (hb : b < 4294967296) : a ^^^ b < 4294967296 := Nat.xor_lt_two_pow (n := 32) ha hb
theorem div2_xor (a b : Nat) : (a ^^^ b) / 2 = a / 2 ^^^ b / 2 := by
  have := Nat.shiftRight_xor_distrib (a := a) (b := b) (i := 1)
  simpa [Nat.shiftRight_eq_div_pow] using this
theorem mod2_xor (a b : Nat) : (a ^^^ b) % 2 = (a % 2 + b % 2) % 2 := by
  have h := Nat.xor_mod_two_eq_one (a := a) (b := b)
  rcases Nat.mod_two_eq_zero_or_one (a ^^^ b) with hx | hx <;> rcases Nat.mod_two_eq_zero_or_one a with ha | ha <;> rcases Nat.mod_two_eq_zero_or_one b with hb | hb <;> simp [hx, ha, hb] at h ⊢
theorem step_xor (a b : Nat) : step (a ^^^ b) = step a ^^^ step b := by
  unfold step
  rw [div2_xor, mod2_xor]
  rcases Nat.mod_two_eq_zero_or_one a with ha | ha <;> rcases Nat.mod_two_eq_zero_or_one b with hb | hb <;> simp only [ha, hb]
  · simp
  · simp [Nat.xor_assoc]
  · simp; rw [Nat.xor_assoc, Nat.xor_comm (b / 2), ← Nat.xor_assoc]
  · simp; rw [Nat.xor_assoc, Nat.xor_comm _ (b / 2 ^^^ _), Nat.xor_assoc (b / 2)]; simp
theorem steps_xor (n a b : Nat) : steps n (a ^^^ b) = steps n a ^^^ steps n b := by
  induction n generalizing a b with
  | zero => rfl
  | succ n ih => simp [steps, step_xor, ih]
theorem steps_add (m n r : Nat) : steps (m + n) r = steps n (steps m r) := by
  induction m generalizing r with
  | zero => simp [steps]
  | succ m ih => rw [show m + 1 + n = (m + n) + 1 from by omega]; simp [steps, ih]
theorem step_double (k : Nat) : step (2 * k) = k := by simp [step]
theorem steps_pow (n k : Nat) : steps n (2 ^ n * k) = k := by
  induction n with
  | zero => simp [steps]
  | succ n ih => rw [steps, show 2 ^ (n + 1) * k = 2 * (2 ^ n * k) from by rw [Nat.pow_succ, Nat.mul_comm (2 ^ n) 2, Nat.mul_assoc], step_double, ih]
theorem step_lt {r : Nat} (h : r < 4294967296) : step r < 4294967296 := by
  unfold step
  refine xor_lt (by omega) ?_
  split <;> omega
theorem steps_lt (n : Nat) {r : Nat} (h : r < 4294967296) : steps n r < 4294967296 := by
  induction n generalizing r with
  | zero => exact h
  | succ n ih => exact ih (step_lt h)
theorem step_zero : step 0 = 0 := by simp [step]
theorem steps_zero (n : Nat) : steps n 0 = 0 := by
  induction n with
  | zero => rfl
  | succ n ih => rw [steps, step_zero, ih]
theorem xor_eq_zero {a b : Nat} (h : a ^^^ b = 0) : a = b := by
  have : a ^^^ b ^^^ b = b := by rw [h]; simp
  rwa [Nat.xor_assoc, Nat.xor_self, Nat.xor_zero] at this
theorem step_ne {r : Nat} (h : r < 4294967296) (h0 : r ≠ 0) : step r ≠ 0 := by
  intro e
  unfold step at e
  have := xor_eq_zero e
  split at this <;> omega
theorem steps_ne (n : Nat) {r : Nat} (h : r < 4294967296) (h0 : r ≠ 0) : steps n r ≠ 0 := by
  induction n generalizing r with
  | zero => exact h0
  | succ n ih => exact ih (step_lt h) (step_ne h h0)
theorem join (j x y : Nat) (hy : y < 2 ^ j) : 2 ^ j * x + y = 2 ^ j * x ^^^ y := by
  rw [Nat.two_pow_add_eq_or_of_lt hy]
  apply Nat.eq_of_testBit_eq
  intro i
  rw [Nat.testBit_or, Nat.testBit_xor, Nat.testBit_two_pow_mul]
  by_cases hi : j ≤ i
  · have : y.testBit i = false := Nat.testBit_lt_two_pow (Nat.lt_of_lt_of_le hy (Nat.pow_le_pow_right (by omega) hi))
    simp [this]
  · simp [hi]
theorem tab_eq (i : Nat) (h : i < 16) : steps 4 i = tab i := by
  have : ∀ i : Fin 16, steps 4 i.val = tab i.val := by decide
  exact this ⟨i, h⟩
theorem tab_lt (i : Nat) : tab i < 4294967296 := by
  by_cases h : i < 16
  · have : ∀ i : Fin 16, tab i.val < 4294967296 := by decide
    exact this ⟨i, h⟩
  · simp [tab, List.getD, show 16 ≤ i from by omega]
theorem nib_eq (r : Nat) : nib r = steps 4 r := by
  unfold nib
  have e : r = 2 ^ 4 * (r / 16) ^^^ r % 16 := by
    rw [← join 4 (r / 16) (r % 16) (by omega)]; omega
  conv => rhs; rw [e, steps_xor, steps_pow, tab_eq _ (by omega)]
theorem nib_lt {r : Nat} (h : r < 4294967296) : nib r < 4294967296 := by rw [nib_eq]; exact steps_lt 4 h
theorem u8_lt (c : UInt8) : c.toNat < 256 := c.toNat_lt
theorem byte_eq (r : Nat) (c : UInt8) : byte r c = steps 8 (r ^^^ c.toNat) := by
  unfold byte
  rw [nib_eq, nib_eq, ← steps_add]
theorem byte_lt {r : Nat} (h : r < 4294967296) (c : UInt8) : byte r c < 4294967296 := by
  rw [byte_eq]
  exact steps_lt 8 (xor_lt h (by have := u8_lt c; omega))
theorem run_lt {r : Nat} (h : r < 4294967296) (l : List UInt8) : run r l < 4294967296 := by
  induction l generalizing r with
  | nil => exact h
  | cons c l ih => exact ih (byte_lt h c)
theorem turn_lt {r : Nat} (h : r < 4294967296) : turn r < 4294967296 := xor_lt (by unfold ones; omega) h
theorem on_lt {r : Nat} (h : r < 4294967296) (l : List UInt8) : on r l < 4294967296 := turn_lt (run_lt (turn_lt h) l)
theorem xor_twice (t r : Nat) : turnBy t (turnBy t r) = r := by unfold turnBy; rw [← Nat.xor_assoc, Nat.xor_self, Nat.zero_xor]
theorem turn_turn (r : Nat) : turn (turn r) = r := xor_twice ones r
theorem run_append (r : Nat) (a b : List UInt8) : run r (a ++ b) = run (run r a) b := by simp [run]
theorem on_append (r : Nat) (a b : List UInt8) : on (on r a) b = on r (a ++ b) := by
  unfold on
  rw [turn_turn, run_append]
theorem run_snoc (r : Nat) (l : List UInt8) (c : UInt8) : run r (l ++ [c]) = byte (run r l) c := by simp [run]
theorem run_num (r : Nat) (l : List UInt8) : run r l = steps (8 * l.length) (r ^^^ num l) := by
  induction l generalizing r with
  | nil => simp [run, steps, num]
  | cons c l ih =>
    have e : r ^^^ num (c :: l) = (r ^^^ c.toNat) ^^^ 2 ^ 8 * num l := by
      rw [num, Nat.add_comm, show 256 * num l = 2 ^ 8 * num l from rfl, join 8 _ _ (u8_lt c), Nat.xor_comm (2 ^ 8 * num l), Nat.xor_assoc]
    rw [e, List.length_cons, show 8 * (l.length + 1) = 8 + 8 * l.length from by omega, steps_add, steps_xor, steps_pow, ← byte_eq, ← ih]
    rfl
/-- Texts taken together byte by byte. -/
theorem run_xor (r q : Nat) (a b : List UInt8) (h : a.length = b.length) : run (r ^^^ q) (List.zipWith (· ^^^ ·) a b) = run r a ^^^ run q b := by
  induction a generalizing r q b with
  | nil => cases b with
    | nil => rfl
    | cons => simp at h
  | cons c a ih => cases b with
    | nil => simp at h
    | cons d b =>
      have e : byte (r ^^^ q) (c ^^^ d) = byte r c ^^^ byte q d := by
        rw [byte_eq, byte_eq, byte_eq, ← steps_xor, UInt8.toNat_xor]
        congr 1
        rw [Nat.xor_assoc, Nat.xor_assoc, ← Nat.xor_assoc q, Nat.xor_comm q, Nat.xor_assoc]
      show run (byte (r ^^^ q) (c ^^^ d)) (List.zipWith _ a b) = _
      rw [e, ih _ _ _ (by simpa using h)]
      rfl
/-- The sums of three texts of one length, and of the three together. -/
theorem on_three (a b c : List UInt8) (h1 : a.length = b.length) (h2 : a.length = c.length) :
    on 0 a ^^^ on 0 b ^^^ on 0 c = on 0 (List.zipWith (· ^^^ ·) (List.zipWith (· ^^^ ·) a b) c) := by
  unfold on
  have e : ∀ x : Nat, x ^^^ x ^^^ x = x := fun x => by simp
  conv => rhs; rw [← e (turn 0), run_xor _ _ _ _ (by simp; omega), run_xor _ _ _ _ h1]
  generalize run (turn 0) a = x
  generalize run (turn 0) b = y
  generalize run (turn 0) c = z
  unfold turn
  generalize ones = t
  unfold turnBy
  apply Nat.eq_of_testBit_eq
  intro i
  simp only [Nat.testBit_xor]
  cases t.testBit i <;> cases x.testBit i <;> cases y.testBit i <;> cases z.testBit i <;> rfl
theorem xor_right_ne {a b c : Nat} (h : b ^^^ a = c ^^^ a) : b = c := by
  have : b ^^^ a ^^^ a = c ^^^ a ^^^ a := by rw [h]
  simpa [Nat.xor_assoc] using this
/-- A text of which the first k bytes are taken together with others. -/
def mixed (l : List UInt8) (d : Nat → UInt8) (k : Nat) : List UInt8 := l.mapIdx fun j c => if j < k then c ^^^ d j else c
theorem mixed_length (l : List UInt8) (d : Nat → UInt8) (k : Nat) : (mixed l d k).length = l.length := by simp [mixed]
theorem mixed_at (l : List UInt8) (d : Nat → UInt8) (k j : Nat) (h : j < l.length) : (mixed l d k)[j]'(by rw [mixed_length]; exact h) = if j < k then l[j] ^^^ d j else l[j] := by simp [mixed]
theorem mixed_zero (l : List UInt8) (d : Nat → UInt8) : mixed l d 0 = l := by
  apply List.ext_getElem (by simp [mixed])
  intro j h1 h2
  rw [mixed_at l d 0 j h2]; simp
theorem mixed_set (l : List UInt8) (d : Nat → UInt8) (k : Nat) (h : k < l.length) : (mixed l d k).set k (l[k] ^^^ d k) = mixed l d (k + 1) := by
  apply List.ext_getElem (by simp [mixed])
  intro j h1 h2
  have hj : j < l.length := by simpa [mixed] using h2
  rw [List.getElem_set, mixed_at l d (k + 1) j hj]
  split
  · rename_i e; subst e; simp
  · rw [mixed_at l d k j hj]
    by_cases hjk : j < k
    · rw [if_pos hjk, if_pos (by omega)]
    · rw [if_neg hjk, if_neg (by omega)]
theorem mixed_same (l : List UInt8) (d : Nat → UInt8) (k : Nat) (hd : d k = 0) : mixed l d (k + 1) = mixed l d k := by
  apply List.ext_getElem (by simp [mixed])
  intro j h1 h2
  have hj : j < l.length := by simpa [mixed] using h2
  rw [mixed_at l d (k + 1) j hj, mixed_at l d k j hj]
  by_cases hjk : j < k
  · rw [if_pos hjk, if_pos (by omega)]
  · by_cases e : j = k
    · subst e; rw [if_pos (by omega), if_neg hjk, hd]; simp
    · rw [if_neg hjk, if_neg (by omega)]
theorem on_mixed (l : List UInt8) (d1 d2 : Nat → UInt8) : on 0 l ^^^ on 0 (mixed l d1 l.length) ^^^ on 0 (mixed l d2 l.length) = on 0 (mixed l (fun j => d1 j ^^^ d2 j) l.length) := by
  rw [on_three _ _ _ (mixed_length _ _ _).symm (mixed_length _ _ _).symm]
  congr 1
  apply List.ext_getElem (by simp [mixed])
  intro j h1 h2
  have hj : j < l.length := by simpa [mixed] using h2
  rw [List.getElem_zipWith, List.getElem_zipWith, mixed_at l _ _ j hj, mixed_at l _ _ j hj, mixed_at l _ _ j hj, if_pos hj, if_pos hj, if_pos hj]
  generalize l[j] = a
  generalize d1 j = b
  generalize d2 j = c
  apply UInt8.toNat_inj.1
  simp only [UInt8.toNat_xor]
  apply Nat.eq_of_testBit_eq
  intro i
  simp only [Nat.testBit_xor]
  cases a.toNat.testBit i <;> cases b.toNat.testBit i <;> cases c.toNat.testBit i <;> rfl
/-- A burst: the numbers of two texts of one length part in bits that lie within 32 in a row. -/
theorem on_burst (a b : List UInt8) (h : a.length = b.length) (at_ bits : Nat) (hb : bits < 4294967296) (hx : num b = num a ^^^ 2 ^ at_ * bits) (hat : at_ ≤ 8 * a.length) :
    on 0 b = on 0 a ↔ bits = 0 := by
  unfold on
  constructor
  · intro e
    have e1 : run (turn 0) b = run (turn 0) a := by
      have := congrArg turn e
      rwa [turn_turn, turn_turn] at this
    rw [run_num, run_num, ← h, hx, ← Nat.xor_assoc, steps_xor] at e1
    have e2 : steps (8 * a.length) (2 ^ at_ * bits) = 0 := by
      have := congrArg (steps (8 * a.length) (turn 0 ^^^ num a) ^^^ ·) e1
      simpa [← Nat.xor_assoc] using this
    rw [show 8 * a.length = at_ + (8 * a.length - at_) from by omega, steps_add, steps_pow] at e2
    exact Classical.byContradiction fun hne => steps_ne _ hb hne e2
  · intro e
    subst e
    rw [Nat.mul_zero, Nat.xor_zero] at hx
    rw [run_num, run_num, ← h, hx]

theorem mul_xor (k a b : Nat) : 2 ^ k * (a ^^^ b) = 2 ^ k * a ^^^ 2 ^ k * b := by
  apply Nat.eq_of_testBit_eq
  intro i
  simp only [Nat.testBit_xor, Nat.testBit_two_pow_mul]
  cases decide (k ≤ i) <;> simp
/-- One bit of a text is turned. -/
theorem num_turn (l : List UInt8) (p : Nat) (h : p / 8 < l.length) : num (l.set (p / 8) (l[p / 8] ^^^ UInt8.ofNat (2 ^ (p % 8)))) = num l ^^^ 2 ^ p := by
  induction l generalizing p with
  | nil => simp at h
  | cons c l ih =>
    have e : ∀ d : UInt8, num (d :: l) = 2 ^ 8 * num l ^^^ d.toNat := fun d => by
      rw [num, Nat.add_comm, show 256 * num l = 2 ^ 8 * num l from rfl, join 8 _ _ (u8_lt d)]
    by_cases hp : p < 8
    · have hz : p / 8 = 0 := by omega
      have hm : p % 8 = p := by omega
      have hpow : 2 ^ p < 2 ^ 8 := Nat.pow_lt_pow_right (by omega) hp
      simp only [hz, hm, List.set_cons_zero, List.getElem_cons_zero]
      rw [e, e, UInt8.toNat_xor, UInt8.toNat_ofNat', Nat.mod_eq_of_lt hpow, Nat.xor_assoc]
    · obtain ⟨q, rfl⟩ : ∃ q, p = q + 8 := ⟨p - 8, by omega⟩
      have hz : (q + 8) / 8 = q / 8 + 1 := by omega
      have hm : (q + 8) % 8 = q % 8 := by omega
      have hq : q / 8 < l.length := by simp at h; omega
      have hi := ih q hq
      simp only [hz, hm, List.set_cons_succ, List.getElem_cons_succ]
      have e2 : ∀ l' : List UInt8, num (c :: l') = 2 ^ 8 * num l' ^^^ c.toNat := fun l' => by
        rw [num, Nat.add_comm, show 256 * num l' = 2 ^ 8 * num l' from rfl, join 8 _ _ (u8_lt c)]
      rw [e2, e2, hi, mul_xor, Nat.xor_assoc, Nat.xor_comm (2 ^ 8 * 2 ^ q), ← Nat.xor_assoc, ← Nat.pow_add, Nat.add_comm 8 q]
/-- One bit more of the mask. -/
theorem mask_succ (f bits m : Nat) (h : bits / 2 ^ m % 2 = 1) : 2 ^ f * (bits % 2 ^ (m + 1)) = 2 ^ f * (bits % 2 ^ m) ^^^ 2 ^ (f + m) := by
  have e : bits % 2 ^ (m + 1) = 2 ^ m ^^^ bits % 2 ^ m := by
    have := join m 1 (bits % 2 ^ m) (Nat.mod_lt _ (Nat.two_pow_pos m))
    rw [Nat.mul_one] at this
    rw [← this, Nat.mod_pow_succ, h]; omega
  rw [e, mul_xor, Nat.pow_add, Nat.xor_comm]
theorem mask_same (bits m : Nat) (h : bits / 2 ^ m % 2 ≠ 1) : bits % 2 ^ (m + 1) = bits % 2 ^ m := by
  rw [Nat.mod_pow_succ, show bits / 2 ^ m % 2 = 0 from by omega]; simp
theorem mask_ne (bits m : Nat) (h : bits / 2 ^ m % 2 = 1) : (bits % 2 ^ (m + 1) != 0) = true := by
  have := Nat.two_pow_pos m
  rw [bne_iff_ne, Nat.mod_pow_succ, h]; omega

/-! ### The document's answer: bit by bit. -/
/-- One bit. -/
def rbit (r b : Nat) : Nat := (r / 2) ^^^ (if b ^^^ r % 2 = 1 then 2197175160 else 0)
theorem rbit_eq (r b : Nat) (hb : b < 2) : rbit r b = step (r ^^^ b) := by
  unfold rbit step
  rw [div2_xor, mod2_xor]
  rcases Nat.mod_two_eq_zero_or_one r with hr | hr <;> (have h : b = 0 ∨ b = 1 := by omega) <;> rcases h with h | h <;> simp [hr, h]
/-- The register when k bits of c have gone in. -/
def part (r : Nat) (c k : Nat) : Nat := steps k (r ^^^ c) ^^^ (c / 2 ^ k)
theorem part_zero (r c : Nat) : part r c 0 = r := by simp [part, steps, Nat.xor_assoc]
theorem part_eight (r : Nat) (c : UInt8) : part r c.toNat 8 = byte r c := by
  unfold part
  rw [byte_eq, Nat.div_eq_of_lt (u8_lt c), Nat.xor_zero]
theorem part_succ (r c k : Nat) : part r c (k + 1) = rbit (part r c k) (c / 2 ^ k % 2) := by
  rw [rbit_eq _ _ (by omega)]
  unfold part
  rw [steps_add]
  show step (steps k (r ^^^ c)) ^^^ _ = _
  generalize steps k (r ^^^ c) = s
  have e : c / 2 ^ k = 2 * (c / 2 ^ (k + 1)) ^^^ c / 2 ^ k % 2 := by
    have h := join 1 (c / 2 ^ (k + 1)) (c / 2 ^ k % 2) (by omega)
    rw [show (2 : Nat) ^ 1 = 2 from rfl] at h
    rw [← h, Nat.pow_succ, ← Nat.div_div_eq_div_mul]; omega
  have e2 : s ^^^ c / 2 ^ k ^^^ c / 2 ^ k % 2 = s ^^^ 2 * (c / 2 ^ (k + 1)) := by
    generalize c / 2 ^ k % 2 = b at e ⊢
    rw [e]
    simp [Nat.xor_assoc]
  rw [e2, step_xor, step_double]
theorem part_lt {r c : Nat} (k : Nat) (h : r < 4294967296) (hc : c < 256) : part r c k < 4294967296 :=
  xor_lt (steps_lt k (xor_lt h (by omega))) (Nat.lt_of_le_of_lt (Nat.div_le_self _ _) (by omega))
end Go.Proofs.YtpiaplgbpjgjiaaGreatDoor.Crc
end

/-
  The walks of layer 3: crc.On, crc.Of and the document's On, Of answer what Crc.on tells; under the table's cells.
-/
section
open Go Go.RowKit
namespace Go.Proofs.YtpiaplgbpjgjiaaGreatDoor.Crc

/-- The table's cells, in a world. -/
def TabOk (w : World) : Prop := ∀ i : Nat, i < 16 → w.cell? ⟨0, i, none⟩ = some (.int .u32 (tab i : Nat))

theorem nib_ops (y : Nat) (hy : y < 4294967296) : ∃ i : Nat, i < 16 ∧ bits .and .u32 (y : Int) 15 = (i : Int) ∧ bits .xor .u32 ((y : Int) / 16) (tab i : Nat) = ((nib y : Nat) : Int) := by
  refine ⟨y % 16, by omega, ?_, ?_⟩
  · have := u32_and_nat y 15 hy (by omega)
    rw [show ((15 : Nat) : Int) = 15 from rfl] at this
    rw [this, nat_mask4]
  · have := u32_xor_nat (y / 16) (tab (y % 16)) (by omega) (tab_lt _)
    rw [show ((y / 16 : Nat) : Int) = (y : Int) / 16 from by omega] at this
    rw [this]; rfl
theorem turnBy_op (t r : Nat) (ht : t < 4294967296) (hr : r < 4294967296) : bits .xor .u32 (t : Int) (r : Int) = (turnBy t r : Nat) := u32_xor_nat t r ht hr
theorem turn_op (r : Nat) (hr : r < 4294967296) : bits .xor .u32 IntKind.u32.max (r : Int) = (turn r : Nat) := by
  rw [show IntKind.u32.max = ((ones : Nat) : Int) from by decide]
  exact turnBy_op ones r (by unfold ones; omega) hr
theorem xor_op (r : Nat) (c : UInt8) (hr : r < 4294967296) : bits .xor .u32 (r : Int) ((c.toNat : Int) % 4294967296) = ((r ^^^ c.toNat : Nat) : Int) := by
  have hc := u8_lt c
  have := u32_xor_nat r c.toNat hr (by omega)
  rw [← this]
  congr 1
  omega
theorem take_snoc (s : ByteArray) (k : Nat) (h : k < s.size) : s.data.toList.take (k + 1) = s.data.toList.take k ++ [s[k]] := by
  rw [List.take_succ_eq_append_getElem (by simpa using h)]; rfl

set_option maxHeartbeats 400000 in
theorem On_calls (r0 : Nat) (s : ByteArray) (w : World) (hs : s.size ≤ maxLen) (h1 : r0 < 4294967296) (hT : TabOk w) :
    Calls Tryz.prog 74 #[.int .u32 r0, .string s] w fun e w' => e = .returned (.int .u32 (on r0 s.data.toList : Nat)) ∧ w = w' := by
  unfold maxLen at hs
  have ht := turn_op r0 h1
  have ht2 := turn_lt h1
  have HT := Lib.hid hT
  clear hT
  go_enter Tryz.func74, Tryz.ntmps74
  go_wp2
  go_loop [5, 6, 11] (fun r _ k => ∃ n : Nat, n ≤ s.size ∧ k = .int .i64 n ∧ r = .int .u32 (run (turn r0) (s.data.toList.take n) : Nat)) (fun _ _ k => s.size - (intOf k).toNat)
  case atStart => exact ⟨0, Nat.zero_le _, rfl, rfl⟩
  case round =>
    obtain ⟨n, hn, rfl, rfl⟩ := hrel
    clear ht
    by_cases hlt : n < s.size
    · have hx := run_lt ht2 (s.data.toList.take n)
      have hts : run (turn r0) (s.data.toList.take (n + 1)) = byte (run (turn r0) (s.data.toList.take n)) s[n] := by rw [take_snoc s n hlt, run_snoc]
      have HS := Lib.hid hts
      clear hts
      generalize run (turn r0) (s.data.toList.take n) = x at hx HS ⊢
      have e1 := xor_op x s[n] hx
      have h2 : x ^^^ s[n].toNat < 4294967296 := xor_lt hx (by have := u8_lt s[n]; omega)
      have hb : byte x s[n] = nib (nib (x ^^^ s[n].toNat)) := rfl
      have HB := Lib.hid hb
      clear hb
      generalize x ^^^ s[n].toNat = y at e1 h2 HB
      obtain ⟨i, hi, e2, e3⟩ := nib_ops y h2
      have h3 := nib_lt h2
      have hc1 := HT.out i hi
      generalize nib y = z at h3 e3 HB
      obtain ⟨j, hj, e4, e5⟩ := nib_ops z h3
      have hc2 := HT.out j hj
      go_wp2
      go_round
      case rel => exact ⟨n + 1, by omega, by go_num, by rw [HS.out, HB.out]⟩
      case measure => simp [intOf]; omega
    · have hx := run_lt ht2 (s.data.toList.take n)
      have ht3 := turn_op _ hx
      go_wp2
      go_ret
      refine ⟨?_, rfl⟩
      rw [List.take_of_length_le (by simp; omega)]
      rfl

theorem Of_calls (s : ByteArray) (w : World) (hs : s.size ≤ maxLen) (hT : TabOk w) :
    Calls Tryz.prog 75 #[.string s] w fun e w' => e = .returned (.int .u32 (on 0 s.data.toList : Nat)) ∧ w = w' := by
  have H := On_calls 0 s w hs (by omega) hT
  have HT := Lib.hid hT
  clear hT
  go_enter Tryz.func75, Tryz.ntmps75
  go_wp2_with (go_at_call 74; refine H.mono ?_; rintro e w' ⟨rfl, rfl⟩)
  go_ret
  exact ⟨rfl, rfl⟩

theorem bit_ops (y c m : Nat) (hy : y < 4294967296) (hc : c < 256) : ∃ d : Nat, bits .xor .u32 (bits .and .u32 ((c : Int) / 2 ^ m % 4294967296) 1) (bits .and .u32 (y : Int) 1) = (d : Int) ∧
    d = (c / 2 ^ m % 2) ^^^ y % 2 ∧ bits .xor .u32 ((y : Int) / 2) 2197175160 = ((y / 2 ^^^ 2197175160 : Nat) : Int) := by
  have h1 := u32_and_nat (c / 2 ^ m) 1 (Nat.lt_of_le_of_lt (Nat.div_le_self _ _) (by omega)) (by omega)
  have h2 := u32_and_nat y 1 hy (by omega)
  have h3 := u32_xor_nat (c / 2 ^ m % 2) (y % 2) (by omega) (by omega)
  have h4 := u32_xor_nat (y / 2) 2197175160 (by omega) (by omega)
  rw [nat_mask1] at h1 h2
  have e : (c : Int) / 2 ^ m % 4294967296 = ((c / 2 ^ m : Nat) : Int) := by
    have hle := Nat.div_le_self c (2 ^ m)
    have : (c : Int) / 2 ^ m = ((c / 2 ^ m : Nat) : Int) := by rw [Int.natCast_ediv, Int.natCast_pow]; rfl
    rw [this]
    generalize c / 2 ^ m = q at hle
    omega
  refine ⟨_, ?_, rfl, ?_⟩
  · rw [e, show (1 : Int) = ((1 : Nat) : Int) from rfl, h1, h2, h3]
  · rw [show (y : Int) / 2 = ((y / 2 : Nat) : Int) from by omega]
    exact h4

set_option maxHeartbeats 400000 in
theorem refOn_calls (r0 : Nat) (s : ByteArray) (w : World) (hs : s.size ≤ maxLen) (h1 : r0 < 4294967296) :
    Calls Tryz.prog 77 #[.int .u32 r0, .string s] w fun e w' => e = .returned (.int .u32 (on r0 s.data.toList : Nat)) ∧ w = w' := by
  unfold maxLen at hs
  have ht := turn_op r0 h1
  have ht2 := turn_lt h1
  go_enter Tryz.func77, Tryz.ntmps77
  go_wp2
  go_loop [5, 6] (fun r k => ∃ n : Nat, n ≤ s.size ∧ k = .int .i64 n ∧ r = .int .u32 (run (turn r0) (s.data.toList.take n) : Nat)) (fun _ k => s.size - (intOf k).toNat)
  case atStart => exact ⟨0, Nat.zero_le _, rfl, rfl⟩
  case round =>
    obtain ⟨n, hn, rfl, rfl⟩ := hrel
    clear ht
    by_cases hlt : n < s.size
    · have hx := run_lt ht2 (s.data.toList.take n)
      have hts : run (turn r0) (s.data.toList.take (n + 1)) = byte (run (turn r0) (s.data.toList.take n)) s[n] := by rw [take_snoc s n hlt, run_snoc]
      have HS := Lib.hid hts
      clear hts
      generalize run (turn r0) (s.data.toList.take n) = x at hx HS ⊢
      go_wp2
      go_loop [5, 7] (fun r k => ∃ m : Nat, m ≤ 8 ∧ k = .int .i64 m ∧ r = .int .u32 (part x s[n].toNat m : Nat)) (fun _ k => 8 - (intOf k).toNat)
      case atStart => exact ⟨0, Nat.zero_le _, rfl, by rw [part_zero]⟩
      case round =>
        obtain ⟨m, hm, rfl, rfl⟩ := hrel
        have hy := part_lt m hx (u8_lt s[n])
        by_cases hlt2 : m < 8
        · have hp := part_succ x s[n].toNat m
          have HP := Lib.hid hp
          clear hp
          generalize part x s[n].toNat m = y at hy HP ⊢
          obtain ⟨d, e1, hd, e2⟩ := bit_ops y s[n].toNat m hy (u8_lt s[n])
          have HD := Lib.hid hd
          clear hd
          by_cases hd1 : d = 1
          · have hr : rbit y (s[n].toNat / 2 ^ m % 2) = y / 2 ^^^ 2197175160 := by
              have := HD.out; unfold rbit; rw [← this, if_pos hd1]
            have HR := Lib.hid hr
            clear hr
            subst hd1
            generalize y / 2 ^^^ 2197175160 = z at HR e2
            go_wp2
            all_goals
              go_round
              case rel => exact ⟨m + 1, by omega, by go_num, by rw [HP.out, HR.out]⟩
              case measure => simp [intOf]; omega
          · have hr : rbit y (s[n].toNat / 2 ^ m % 2) = y / 2 := by
              have := HD.out; unfold rbit; rw [← this, if_neg hd1]; simp
            have HR := Lib.hid hr
            clear hr
            have hd2 : (d : Int) ≠ 1 := by omega
            clear hd1 e2
            have hd3 : ((d : Int) == 1) = false := beq_eq_false_iff_ne.2 hd2
            go_wp2
            all_goals
              go_round
              case rel => exact ⟨m + 1, by omega, by go_num, by rw [HP.out, HR.out]; go_num⟩
              case measure => simp [intOf]; omega
        · have hm8 : m = 8 := by omega
          have hp8 := part_eight x s[n]
          subst hm8
          have HP := Lib.hid hp8
          clear hp8
          generalize part x s[n].toNat 8 = y at hy HP ⊢
          go_wp2
          go_round
          case rel => exact ⟨n + 1, by omega, by go_num, by rw [HS.out, HP.out]⟩
          case measure => simp [intOf]; omega
    · have hx := run_lt ht2 (s.data.toList.take n)
      have ht3 := turn_op _ hx
      go_wp2
      go_ret
      refine ⟨?_, rfl⟩
      rw [List.take_of_length_le (by simp; omega)]
      rfl
theorem refOf_calls (s : ByteArray) (w : World) (hs : s.size ≤ maxLen) :
    Calls Tryz.prog 66 #[.string s] w fun e w' => e = .returned (.int .u32 (on 0 s.data.toList : Nat)) ∧ w = w' := by
  have H := refOn_calls 0 s w hs (by omega)
  go_enter Tryz.func66, Tryz.ntmps66
  go_wp2_with (go_at_call 77; refine H.mono ?_; rintro e w' ⟨rfl, rfl⟩)
  go_ret
  exact ⟨rfl, rfl⟩
end Go.Proofs.YtpiaplgbpjgjiaaGreatDoor.Crc
end

/-
  The sum's table in worlds to come; the contracts of layer 3 at strings of bytes. No condition.
-/
section
open Go Go.RowKit
namespace Go.Proofs.YtpiaplgbpjgjiaaGreatDoor.Crc
open Base

theorem TabOk.below {w w' : World} {K : Nat} (h : TabOk w) (hB : 0 < K) (hb : Below K w w') : TabOk w' := fun i hi => (hb.cell (p := ⟨0, i, none⟩) hB).trans (h i hi)
theorem TabOk.lt {w : World} (h : TabOk w) : 0 < w.heap.size := lt_of_cell (h 0 (by omega))
theorem TabOk.next {w w' : World} (h : TabOk w) (hb : Below w.heap.size w w') : TabOk w' := h.below h.lt hb
theorem TabOk.drewN {w : World} (h : TabOk w) (n : Nat) : TabOk (w.drewN n) := h
theorem bit_and (b m : Nat) (hb : b < 4294967296) : bits .and .u32 ((b : Int) / 2 ^ m) 1 = ((b / 2 ^ m % 2 : Nat) : Int) := by
  have h1 := u32_and_nat (b / 2 ^ m) 1 (Nat.lt_of_le_of_lt (Nat.div_le_self _ _) (by omega)) (by omega)
  rw [nat_mask1] at h1
  rw [← h1, Int.natCast_ediv, Int.natCast_pow]
  rfl
theorem turned_op (c : UInt8) (k : Nat) (hk : k < 8) : bits .xor .u8 (c.toNat : Int) (2 ^ k % 256) = ((c ^^^ UInt8.ofNat (2 ^ k)).toNat : Nat) := by
  have hp : 2 ^ k < 2 ^ 8 := Nat.pow_lt_pow_right (by omega) hk
  have h1 := u8_xor_nat c.toNat (2 ^ k) (u8_lt _) (by omega)
  rw [UInt8.toNat_xor, UInt8.toNat_ofNat', Nat.mod_eq_of_lt hp, ← h1]
  congr 1
  rw [show ((2 : Int) ^ k) = ((2 ^ k : Nat) : Int) from by rw [Int.natCast_pow]; rfl]
  generalize 2 ^ k = q at hp
  omega
theorem B_max {l : List UInt8} (h : l.length ≤ maxLen) : (B l).size ≤ maxLen := by rw [B_size]; exact h
theorem On_B (r0 : Nat) (l : List UInt8) (w : World) (hs : l.length ≤ maxLen) (h1 : r0 < 4294967296) (hT : TabOk w) :
    Calls Tryz.prog 74 #[.int .u32 r0, .string (B l)] w fun e w' => e = .returned (.int .u32 (on r0 l : Nat)) ∧ w = w' := On_calls r0 (B l) w (B_max hs) h1 hT
theorem Of_B (l : List UInt8) (w : World) (hs : l.length ≤ maxLen) (hT : TabOk w) :
    Calls Tryz.prog 75 #[.string (B l)] w fun e w' => e = .returned (.int .u32 (on 0 l : Nat)) ∧ w = w' := Of_calls (B l) w (B_max hs) hT
theorem refOn_B (r0 : Nat) (l : List UInt8) (w : World) (hs : l.length ≤ maxLen) (h1 : r0 < 4294967296) : Calls Tryz.prog 77 #[.int .u32 r0, .string (B l)] w fun e w' => e = .returned (.int .u32 (on r0 l : Nat)) ∧ w = w' := refOn_calls r0 (B l) w (B_max hs) h1
theorem refOf_B (l : List UInt8) (w : World) (hs : l.length ≤ maxLen) : Calls Tryz.prog 66 #[.string (B l)] w fun e w' => e = .returned (.int .u32 (on 0 l : Nat)) ∧ w = w' := refOf_calls (B l) w (B_max hs)
end Go.Proofs.YtpiaplgbpjgjiaaGreatDoor.Crc
end
