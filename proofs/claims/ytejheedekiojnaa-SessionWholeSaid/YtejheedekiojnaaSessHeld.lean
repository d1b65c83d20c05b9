/-
  The walks of Held and Drop (layer 28).
-/
import Derived.Test.YtejheedekiojnaaSessOps
open Go Go.RowKit
namespace Go.Proofs.Ytejheedekiojnaa.Sess
open Base Mp

def remS (left : Lit → Bool) (S : St) : Nat := (S.map fun p => if left p.1 then bytes p.2 else 0).sum
theorem remS_none (left : Lit → Bool) (S : St) (h : ∀ k, left k = false) : remS left S = 0 := by
  unfold remS
  induction S with
  | nil => rfl
  | cons y r ih => simp only [List.map_cons, List.sum_cons, h, Bool.false_eq_true, if_false] at ih ⊢; omega
theorem remS_all (left : Lit → Bool) (S : St) (h : ∀ p ∈ S, left p.1 = true) : remS left S = heldS S := by
  unfold remS heldS
  congr 1
  exact List.map_congr_left fun p hp => by rw [h p hp]; rfl
theorem remS_congr (left left' : Lit → Bool) (S : St) (h : ∀ p ∈ S, left p.1 = left' p.1) : remS left S = remS left' S := by
  unfold remS
  congr 1
  exact List.map_congr_left fun p hp => by rw [h p hp]
theorem remS_cons (left : Lit → Bool) (y : Lit × Held) (r : St) : remS left (y :: r) = (if left y.1 then bytes y.2 else 0) + remS left r := rfl
theorem remS_step (left : Lit → Bool) (S : St) (k : Lit) (H : Held) (hn : S.Pairwise fun p q => p.1 ≠ q.1) (hl : lookL S k = some H) (hk : left k = true) :
    remS left S = bytes H + remS (fun z => left z && !z.sameKey k) S := by
  induction S with
  | nil => simp [lookL] at hl
  | cons y r ih =>
    obtain ⟨h1, h2⟩ := List.pairwise_cons.1 hn
    unfold lookL at hl
    rw [List.find?_cons] at hl
    rw [remS_cons, remS_cons]
    cases hs : y.1.sameKey k
    · rw [hs] at hl
      have ih := ih h2 hl
      rw [ih]
      cases left y.1 <;> simp <;> omega
    · rw [hs] at hl
      have hv : y.2 = H := by simpa using hl
      have hyk := WideAt.sameKey_eq hs
      rw [show left y.1 = true by rw [hyk]; exact hk, hv]
      rw [remS_congr left (fun z => left z && !z.sameKey k) r fun p hp => by
        have : p.1.sameKey k = false := by
          cases hq : p.1.sameKey k
          · rfl
          · exact absurd (hyk.trans (WideAt.sameKey_eq hq).symm) (h1 p hp)
        rw [this]; simp]
      simp
theorem heldS_le (S : St) (hf : ∀ p ∈ S, Fine p.2) (hl : S.length ≤ 32) : heldS S ≤ 32 * (256 * 4096) := by
  have key : ∀ S : St, (∀ p ∈ S, Fine p.2) → heldS S ≤ S.length * (256 * 4096) := by
    intro S
    induction S with
    | nil => intro _; simp [heldS]
    | cons y r ih =>
      intro h
      have h1 := ih (fun p hp => h p (by simp [hp]))
      have h2 := bytes_le y.2 (h y (by simp))
      unfold heldS at h1 ⊢
      simp only [List.map_cons, List.sum_cons, List.length_cons]
      omega
  exact Nat.le_trans (key S hf) (Nat.mul_le_mul_right _ hl)
theorem key_str {key : Value} {kl : Lit} (h : keyOf Try.prog 9 key = some kl) : ∃ x, key = .string x := by
  cases key <;> simp [keyOf, mapKey, Try.underlying9] at h
  exact ⟨_, rfl⟩
theorem at_look {es : List (Lit × Value)} {kl : Lit} {v : Value} (h : ∀ zd, (DataW.map (es.map hv)).atKey kl zd = .held v) : lookL es kl = some v := by
  have h1 := h (.held (.bool true))
  have h2 := h (.held (.bool false))
  rw [atKey_hv] at h1 h2
  cases hl : lookL es kl with
  | some u => rw [hl] at h1; injection h1 with h1; rw [← h1]; rfl
  | none =>
    rw [hl] at h1 h2
    injection h1 with h1
    injection h2 with h2
    rw [← h1] at h2
    cases h2

set_option maxHeartbeats 1000000 in
theorem Held_calls (w : World) (b : Nat) (S : St) (T : Nat → Prop) (h : SessAt w b S T) :
    Calls Try.prog 13 #[ptr (b + 1)] w fun e w' => e = .returned (.int .i64 (heldS S : Nat)) ∧ Below w.heap.size w w' := by
  obtain ⟨blk, hs⟩ := h
  have hc : w.cell? ⟨b + 1, 0, none⟩ = some (.map (some b)) := (hs.head 0 (by omega)).1
  have HTH := Lib.hid (there_calls w b hc)
  have hle := heldS_le S (fun p hp => (hs.held p hp).2.1) hs.few
  have HS := Lib.hid hs
  clear hs
  unfold ptr
  go_enter Try.func13, Try.ntmps13
  go_wp2_with fail
  refine HTH.out.mono ?_
  rintro e w1 ⟨rfl, rfl⟩
  clear HTH
  go_wp2_with (first | (at_range; refine wpList_range_own _ rfl _ 49 rfl 9 53 keyedS ul49 HV b _ _ rfl HS.out.map ?_; intro w0 hrg0 hg0 hs0))
  go_frame
  have hb0 : Below w.heap.size w w0 := (Below.refl _ w).grown hg0 (Nat.le_refl _) (by simp)
  have hall : remS (Maps.has (DataW.map ((mapE (fun k (_ : Held) => ptr (blk k + 1)) S).map hv))) S = heldS S := remS_all _ _ fun p hp => by
    rw [has_hv]
    unfold hasL
    rw [List.any_eq_true]
    exact ⟨(p.1, ptr (blk p.1 + 1)), List.mem_map.2 ⟨p, hp, rfl⟩, WideAt.sameKey_self ((HS.out.map.keys keyedS).2 _ (List.mem_map.2 ⟨p, hp, rfl⟩))⟩
  have HB0 := Lib.hid hb0
  have HALL := Lib.hid hall
  have HRG := Lib.hid hrg0
  clear hb0 hall hrg0 hg0 hs0
  go_loopw [3] (fun v wr => ∃ (left : Lit → Bool) (cnt acc : Nat), v = .int .i64 acc ∧ wr.ranges Try.prog 9 HV b w.heap.size (mapE (fun k (_ : Held) => ptr (blk k + 1)) S).length (DataW.map ((mapE (fun k (_ : Held) => ptr (blk k + 1)) S).map hv)) left cnt ∧ acc + remS left S = heldS S ∧ Below w.heap.size w wr) (fun _ wr => wr.rangeLeft b w.heap.size)
  case atStart => exact ⟨_, _, 0, rfl, HRG.out, by rw [HALL.out]; omega, HB0.out⟩
  case round =>
    obtain ⟨left, cnt, acc, rfl, hrg, hsum, hbe⟩ := hrel
    have HRGI := Lib.hid hrg
    have HSUM := Lib.hid hsum
    have HBE := Lib.hid hbe
    clear hrg hsum hbe
    go_wp2_with (first | (at_next; refine wpList_next_ranges _ rfl _ rfl 9 keyedS HV Value.string id (fun key kl h => key_str h) (fun v y _ => ⟨v, rfl⟩) b w.heap.size _ _ _ _ rfl HRGI.out ?_ ?_))
    · intro h0 hl
      have hacc : acc = heldS S := by
        have := HSUM.out
        rw [remS_none left S hl] at this
        omega
      subst hacc
      go_wp2
      go_ret
      exact ⟨rfl, HBE.out⟩
    · intro x c kl a pl w' cnt' hkey hlk hv1 hat hrg' hlt hgr hsz hen
      have e1 : a = .held c := by
        have := (Prod.mk.inj (Option.some.inj hv1)).1
        exact this.symm
      subst e1
      have hl1 := at_look hat
      rw [mapE_look] at hl1
      obtain ⟨H, hl2, rfl⟩ := Option.map_eq_some_iff.1 hl1
      have hstep := remS_step left S kl H HS.out.keys hl2 hlk
      have hbe' : Below w.heap.size w w' := HBE.out.grown hgr HBE.out.size (by simp)
      obtain ⟨g1, -, -, -, -⟩ := HS.out.held _ (mem_of_look hl2)
      have g2 : HeldAt w' (blk kl) H := g1.kept (Kept.of_below (T := fun _ => False) hbe') (fun h => h) (fun h => h)
      have g3 : w'.cell? ⟨blk kl + 1, 3, none⟩ = some (.int .i64 (bytes H : Nat)) := (g2.head 3 (by omega)).1
      have hsum := HSUM.out
      have HRG2 := Lib.hid hrg'
      have HBE2 := Lib.hid hbe'
      have HST := Lib.hid hstep
      have hm : w'.rangeLeft b w.heap.size < wr.rangeLeft b w.heap.size := by rw [hrg'.left_eq, HRGI.out.left_eq]; exact hlt
      have HM := Lib.hid hm
      rw [hstep] at hsum
      have HSUM2 := Lib.hid hsum
      clear hkey hv1 hat hrg' hgr hsz hbe' g1 g2 hstep hl1 hl2 hm
      generalize bytes H = bH at *
      have hbb : acc + bH ≤ 33554432 := by have := HSUM2.out; omega
      clear hsum
      unfold ptr at hen
      go_wp2
      go_roundw
      case rel => exact ⟨_, cnt', acc + bH, by go_num, HRG2.out, by have := HSUM2.out; omega, HBE2.out⟩
      case measure => exact HM.out

theorem Held_nil (w : World) : Calls Try.prog 13 #[.pointer none] w fun e w' => e = .returned (.int .i64 0) ∧ w = w' := by
  go_enter Try.func13, Try.ntmps13
  go_wp2_with fail
  refine (there_nil w).mono ?_
  rintro e w1 ⟨rfl, rfl⟩
  go_wp2
  go_ret
  exact ⟨rfl, rfl⟩
theorem Len_nil (w : World) : Calls Try.prog 12 #[.pointer none] w fun e w' => e = .returned (.int .i64 0) ∧ w = w' := by
  go_enter Try.func12, Try.ntmps12
  go_wp2_with fail
  refine (there_nil w).mono ?_
  rintro e w1 ⟨rfl, rfl⟩
  go_wp2
  go_ret
  exact ⟨rfl, rfl⟩
end Go.Proofs.Ytejheedekiojnaa.Sess
