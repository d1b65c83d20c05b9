/-
  Logs (layer 8): for LogSpoilt: what a scan makes of frames of which one was turned. No program in sight.
-/
import Derived.Test.YtpiaplgbpjgjiaaDoorLgRow
open Go Go.RowKit
namespace Go.Proofs.YtpiaplgbpjgjiaaDoor.Lg
open Base Mp Dk Frame

def hdr (t : Key) : Key := four t.length ++ four (Frame.sum (four t.length) t)
theorem hdr_len (t : Key) : (hdr t).length = 8 := by simp [hdr, four_length]
theorem put_hdr (t : Key) : put t = hdr t ++ t := rfl
theorem scan_front (A : List Key) (r : Key) (h : ∀ t ∈ A, t.length ≤ 1048576) : scanAll (puts A ++ r) = (A ++ (scanAll r).1, (scanAll r).2) := by
  induction A with
  | nil => simp [puts]
  | cons t ts ih =>
    have hc := cut_put t (puts ts ++ r) (h t (by simp))
    rw [puts_cons, List.append_assoc, scanAll_good _ (by simp [put_ne]) (by rw [hc]), hc]
    simp only
    rw [ih (fun x hx => h x (by simp [hx]))]
    simp
/-- A turned frame, whatever stands behind it. -/
theorem cut_behind_turned (t u rest : Key) (hu : u.length = t.length) (ht : t.length ≤ 1048576) (h : (cut (hdr t ++ u)).2.2 ≠ 0) : (cut (hdr t ++ u ++ rest)).2.2 ≠ 0 := by
  unfold hdr at h ⊢
  rw [List.append_assoc] at h
  rw [List.append_assoc, List.append_assoc]
  rw [cut_head _ _ _ (by omega) (sum_lt _ _), if_neg (by omega), if_neg (by omega), List.take_of_length_le (by omega)] at h
  rw [cut_head _ _ _ (by omega) (sum_lt _ _), if_neg (by omega), if_neg (by rw [List.length_append]; omega)]
  have e : (u ++ rest).take t.length = u := by rw [← hu, List.take_left]
  rw [e]
  split at h
  · next h1 => rw [if_pos h1]; decide
  · exact absurd rfl h
/-- How the k-th record's text stands, behind m bits. -/
structure Sp (t : Key) (f bits_ e : Nat) (u : Key) : Prop where
  len : u.length = t.length
  num : Crc.num u = Crc.num t ^^^ 2 ^ f * (bits_ % 2 ^ e)
  same : bits_ % 2 ^ e = 0 → u = t
theorem Sp.start (t : Key) (f bits_ : Nat) : Sp t f bits_ 0 t := ⟨rfl, by simp [Nat.mod_one], fun _ => rfl⟩
theorem Sp.step {t u : Key} {f bits_ e : Nat} (h : Sp t f bits_ e u) (hi : (f + e) / 8 < u.length) (hb : bits_ / 2 ^ e % 2 = 1) : Sp t f bits_ (e + 1) (u.set ((f + e) / 8) (u[(f + e) / 8] ^^^ UInt8.ofNat (2 ^ ((f + e) % 8)))) := by
  refine ⟨by simp [h.len], ?_, fun h0 => ?_⟩
  · rw [Crc.num_turn u (f + e) hi, h.num, Crc.mask_succ f bits_ e hb, Nat.xor_assoc]
  · have := Crc.mask_ne bits_ e hb
    simp [h0] at this
theorem Sp.skip {t u : Key} {f bits_ e : Nat} (h : Sp t f bits_ e u) (hb : bits_ / 2 ^ e % 2 ≠ 1) : Sp t f bits_ (e + 1) u := by
  have hm := Crc.mask_same bits_ e hb
  exact ⟨h.len, by rw [hm]; exact h.num, fun h0 => h.same (by rw [← hm]; exact h0)⟩
theorem Sp.bad {t u : Key} {f bits_ e : Nat} (h : Sp t f bits_ e u) (ht : t.length ≤ 1048576) (he : e ≤ 32) (hf : f ≤ 8 * t.length) (h0 : bits_ % 2 ^ e ≠ 0) : (cut (hdr t ++ u)).2.2 ≠ 0 := by
  have hlt : bits_ % 2 ^ e < 4294967296 := Nat.lt_of_lt_of_le (Nat.mod_lt _ (Nat.two_pow_pos e)) (Nat.pow_le_pow_right (by omega) he)
  unfold hdr
  rw [List.append_assoc, cut_turned t u h.len ht f _ hlt h.num hf, if_neg h0]
  decide
/-- The file, with the k-th text turned. -/
def turnedFile (l : List Key) (k : Nat) (t u : Key) : Key := puts (l.take k) ++ (hdr t ++ u ++ puts (l.drop (k + 1)))
theorem turned_none (l : List Key) (k : Nat) (hk : k < l.length) : turnedFile l k l[k] l[k] = puts l := by
  unfold turnedFile
  rw [← put_hdr, ← puts_cons, ← List.drop_eq_getElem_cons hk]
  conv => rhs; rw [← List.take_append_drop k l]
  unfold puts
  rw [List.map_append, List.flatten_append]
theorem turned_scan (l : List Key) (k : Nat) (t u : Key) (hs : ∀ r ∈ l, r.length ≤ 1048576) (ht : t.length ≤ 1048576) (hu : u.length = t.length) (h : (cut (hdr t ++ u)).2.2 ≠ 0) : recs (turnedFile l k t u) = l.take k ∧ good (turnedFile l k t u) < (turnedFile l k t u).length := by
  have hne : hdr t ++ u ++ puts (l.drop (k + 1)) ≠ [] := fun e => by
    have := congrArg List.length e
    simp only [List.length_append, hdr_len, List.length_nil] at this
    omega
  have hb := scanAll_bad _ hne (cut_behind_turned t u (puts (l.drop (k + 1))) hu ht h)
  have hf := scan_front (l.take k) (hdr t ++ u ++ puts (l.drop (k + 1))) (fun r hr => hs r (List.mem_of_mem_take hr))
  rw [hb] at hf
  unfold recs good turnedFile
  rw [hf]
  simp only [List.append_nil, List.length_append, hdr_len]
  exact ⟨trivial, by omega⟩
theorem off_len (l : List Key) (k : Nat) : (puts (l.take k)).length ≤ (puts l).length := puts_take_le l k
/-- One byte of the turned text. -/
theorem turned_at (l : List Key) (k : Nat) (t u : Key) (i : Nat) (hi : i < u.length) (c : UInt8) :
    (turnedFile l k t u).length = (puts (l.take k)).length + 8 + u.length + (puts (l.drop (k + 1))).length ∧ (turnedFile l k t u).getD ((puts (l.take k)).length + 8 + i) 0 = u[i] ∧ (turnedFile l k t u).set ((puts (l.take k)).length + 8 + i) c = turnedFile l k t (u.set i c) := by
  unfold turnedFile
  refine ⟨by simp only [List.length_append, hdr_len]; omega, ?_, ?_⟩
  · rw [List.getD_eq_getElem?_getD, List.getElem?_append_right (by omega), List.append_assoc, List.getElem?_append_right (by rw [hdr_len]; omega), hdr_len, List.getElem?_append_left (by omega)]
    rw [show (puts (l.take k)).length + 8 + i - (puts (l.take k)).length - 8 = i by omega, List.getElem?_eq_getElem hi]
    rfl
  · rw [List.set_append_right _ _ (by omega), List.append_assoc, List.set_append_right _ _ (by rw [hdr_len]; omega), hdr_len, List.set_append_left _ _ (by omega)]
    rw [show (puts (l.take k)).length + 8 + i - (puts (l.take k)).length - 8 = i by omega, List.append_assoc]
end Go.Proofs.YtpiaplgbpjgjiaaDoor.Lg
