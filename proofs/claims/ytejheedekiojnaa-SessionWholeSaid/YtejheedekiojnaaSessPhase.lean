/-
  A text's parts that come in their order, on plain data (layer 28). No program in sight.
-/
import Derived.Test.YtejheedekiojnaaSessMath
open Go
namespace Go.Proofs.Ytejheedekiojnaa.Sess
open Mp

/-- What is held of a text of which the first k parts came. -/
def upto (t : List UInt8) (id size k : Nat) : Held := ⟨id, (List.range (cutN t.length size)).map fun i => if i < k then some (piece t size i) else none⟩
theorem upto_length (t : List UInt8) (id size k : Nat) : (upto t id size k).ps.length = cutN t.length size := by simp [upto]
theorem upto_zero (t : List UInt8) (id size : Nat) : upto t id size 0 = fresh id (cutN t.length size) := by
  unfold upto fresh
  congr 1
  refine List.ext_getElem (by simp) fun i h1 h2 => by simp
theorem upto_put (t : List UInt8) (id size k : Nat) (hk : k < cutN t.length size) : hput (upto t id size k) k (piece t size k) = (upto t id size (k + 1), 0) := by
  have h0 : (upto t id size k).ps[k]? = some none := by simp [upto, hk]
  unfold hput
  rw [h0]
  simp only
  congr 1
  unfold upto
  congr 1
  refine List.ext_getElem (by simp) fun i h1 h2 => ?_
  rw [List.getElem_set]
  simp only [List.getElem_map, List.getElem_range]
  split
  · rename_i e; subst e; simp
  · rename_i e
    by_cases hi : i < k
    · rw [if_pos hi, if_pos (by omega)]
    · rw [if_neg hi, if_neg (by omega)]
theorem upto_came (t : List UInt8) (id size k : Nat) (hk : k ≤ cutN t.length size) : came (upto t id size k) = k := by
  induction k with
  | zero => rw [upto_zero, came_fresh]
  | succ k ih =>
    have h1 := ih (by omega)
    have h2 := upto_put t id size k (by omega)
    have hlt : k < (upto t id size k).ps.length := by rw [upto_length]; omega
    have hnone : (upto t id size k).ps[k] = none := by simp [upto]
    have h3 : upto t id size (k + 1) = ⟨id, (upto t id size k).ps.set k (some (piece t size k))⟩ := by
      have h0 : (upto t id size k).ps[k]? = some none := by rw [List.getElem?_eq_getElem hlt, hnone]
      have := congrArg Prod.fst h2
      unfold hput at this
      rw [h0] at this
      exact this.symm
    rw [h3]
    show ((upto t id size k).ps.set k (some (piece t size k))).countP (·.isSome) = k + 1
    rw [came_set _ k _ hlt hnone]
    exact congrArg (· + 1) h1
theorem upto_text (t : List UInt8) (id size : Nat) (hs : 0 < size) : textOf (upto t id size (cutN t.length size)) = t := by
  refine Eq.trans ?_ (pieces_all t size hs)
  unfold textOf upto
  rw [List.map_map]
  congr 1
  refine List.map_congr_left fun i hi => ?_
  rw [List.mem_range] at hi
  simp [hi]
theorem key_self (x : List UInt8) : (keyS x).sameKey (keyS x) = true := by simp [keyS, Lit.sameKey]
theorem look_one (x : List UInt8) (H : Held) : lookL [(keyS x, H)] (keyS x) = some H := by simp [lookL, key_self]
theorem set_one (x : List UInt8) (H H' : Held) : setL [(keyS x, H)] (keyS x) H' = [(keyS x, H')] := by simp [setL, key_self]
theorem del_one (x : List UInt8) (H : Held) : delL [(keyS x, H)] (keyS x) = [] := by simp [delL, key_self]
theorem put_nil (x : List UInt8) (H : Held) : putL [] (keyS x) H = [(keyS x, H)] := rfl
theorem may_part (t : List UInt8) (id size k : Nat) (hs : size ≤ 4096) (hN : cutN t.length size ≤ 256) (hk : k < cutN t.length size) : may (partOf t id size (cutN t.length size) k) = true := by
  have h1 := piece_le t size k
  have h2 : (partOf t id size (cutN t.length size) k).text.length ≤ size := h1
  refine decide_eq_true ⟨?_, ?_, ?_, ?_, by omega⟩ <;> simp only [partOf] <;> omega
theorem more_part (x t : List UInt8) (id size k : Nat) (hs0 : 0 < size) (hk : k < cutN t.length size) :
    more [(keyS x, upto t id size k)] x (upto t id size k) (partOf t id size (cutN t.length size) k) = if k + 1 < cutN t.length size then ([(keyS x, upto t id size (k + 1))], [], false, 0) else ([], t, true, 0) := by
  have hp := upto_put t id size k hk
  have hc := upto_came t id size (k + 1) (by omega)
  have hl := upto_length t id size k
  unfold more
  rw [if_neg (by rw [hl]; simp [partOf])]
  have e : hput (upto t id size k) (partOf t id size (cutN t.length size) k).i.toNat (partOf t id size (cutN t.length size) k).text = (upto t id size (k + 1), 0) := hp
  rw [e]
  simp only [ne_eq, not_true_eq_false, if_false, hc, hl]
  split
  · rw [set_one]
  · rw [del_one, show k + 1 = cutN t.length size by omega, upto_text t id size hs0]
theorem sput_first (x t : List UInt8) (id size : Nat) (hs0 : 0 < size) (hs : size ≤ 4096) (hN : cutN t.length size ≤ 256) :
    sput [] x (partOf t id size (cutN t.length size) 0) = if 1 < cutN t.length size then ([(keyS x, upto t id size 1)], [], false, 0) else ([], t, true, 0) := by
  have hpos := cutN_pos t.length size
  unfold sput
  rw [if_neg (by rw [may_part t id size 0 hs hN (by omega)]; simp)]
  show begin_ [] x (partOf t id size (cutN t.length size) 0) = _
  unfold begin_
  rw [if_neg (by simp), put_nil]
  have e : fresh (partOf t id size (cutN t.length size) 0).id (partOf t id size (cutN t.length size) 0).n.toNat = upto t id size 0 := by rw [upto_zero]; rfl
  rw [e, more_part x t id size 0 hs0 (by omega)]
theorem sput_next (x t : List UInt8) (id size k : Nat) (hs0 : 0 < size) (hs : size ≤ 4096) (hN : cutN t.length size ≤ 256) (hk : k < cutN t.length size) :
    sput [(keyS x, upto t id size k)] x (partOf t id size (cutN t.length size) k) = if k + 1 < cutN t.length size then ([(keyS x, upto t id size (k + 1))], [], false, 0) else ([], t, true, 0) := by
  unfold sput
  rw [if_neg (by rw [may_part t id size k hs hN hk]; simp), look_one]
  show (if (partOf t id size (cutN t.length size) k).id < (upto t id size k).id then _ else if (upto t id size k).id < (partOf t id size (cutN t.length size) k).id then _ else _) = _
  rw [if_neg (by simp [partOf, upto]), if_neg (by simp [partOf, upto])]
  exact more_part x t id size k hs0 hk
theorem sput_newer (x t : List UInt8) (id size : Nat) (H : Held) (hs : size ≤ 4096) (hN : cutN t.length size ≤ 256) (hid : H.id < id) :
    sput [(keyS x, H)] x (partOf t id size (cutN t.length size) 0) = sput [] x (partOf t id size (cutN t.length size) 0) := by
  have hpos := cutN_pos t.length size
  unfold sput
  rw [if_neg (by rw [may_part t id size 0 hs hN (by omega)]; simp), look_one, if_neg (by rw [may_part t id size 0 hs hN (by omega)]; simp)]
  show (if id < H.id then _ else if H.id < id then _ else _) = begin_ [] x _
  rw [if_neg (by omega), if_pos hid, del_one]
theorem sput_older (x t : List UInt8) (id size k : Nat) (H : Held) (hs : size ≤ 4096) (hN : cutN t.length size ≤ 256) (hk : k < cutN t.length size) (hid : id < H.id) :
    sput [(keyS x, H)] x (partOf t id size (cutN t.length size) k) = ([(keyS x, H)], [], false, 3) := by
  unfold sput
  rw [if_neg (by rw [may_part t id size k hs hN hk]; simp), look_one]
  show (if id < H.id then _ else _) = _
  rw [if_pos hid]
end Go.Proofs.Ytejheedekiojnaa.Sess
