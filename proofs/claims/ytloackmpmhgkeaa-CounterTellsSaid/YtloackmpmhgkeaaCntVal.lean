/-
  Sums in memory (layer 12): the walk of value (a range over a map, in whatever order).
-/
import Derived.Test.YtloackmpmhgkeaaCntMem
open Go Go.RowKit
namespace Go.Proofs.Ytloackmpmhgkeaa.Cnt
open Base Mp

def trm (v : Nat × Nat) : Int := (v.1 : Int) - v.2
def remV (left : Lit → Bool) (es : Ent) : Int := (es.map fun p => if left p.1 then trm p.2 else 0).sum
def allV (es : Ent) : Int := (es.map fun p => trm p.2).sum
theorem remV_none (left : Lit → Bool) (es : Ent) (h : ∀ k, left k = false) : remV left es = 0 := by
  unfold remV
  induction es with
  | nil => rfl
  | cons y r ih => simp only [List.map_cons, List.sum_cons, h, Bool.false_eq_true, if_false] at ih ⊢; omega
theorem remV_all (left : Lit → Bool) (es : Ent) (h : ∀ p ∈ es, left p.1 = true) : remV left es = allV es := by
  unfold remV allV
  congr 1
  exact List.map_congr_left fun p hp => by rw [h p hp]; rfl
theorem remV_congr (left left' : Lit → Bool) (es : Ent) (h : ∀ p ∈ es, left p.1 = left' p.1) : remV left es = remV left' es := by
  unfold remV
  congr 1
  exact List.map_congr_left fun p hp => by rw [h p hp]
theorem remV_cons (left : Lit → Bool) (y : Lit × (Nat × Nat)) (r : Ent) : remV left (y :: r) = (if left y.1 then trm y.2 else 0) + remV left r := rfl
theorem remV_step (left : Lit → Bool) (es : Ent) (k : Lit) (v : Nat × Nat) (hn : es.Pairwise fun p q => p.1 ≠ q.1) (hl : lookL es k = some v) (hk : left k = true) :
    remV left es = trm v + remV (fun z => left z && !z.sameKey k) es := by
  induction es with
  | nil => simp [lookL] at hl
  | cons y r ih =>
    obtain ⟨h1, h2⟩ := List.pairwise_cons.1 hn
    unfold lookL at hl
    rw [List.find?_cons] at hl
    rw [remV_cons, remV_cons]
    cases hs : y.1.sameKey k
    · rw [hs] at hl
      have ih := ih h2 hl
      rw [ih]
      cases left y.1 <;> simp <;> omega
    · rw [hs] at hl
      have hv : y.2 = v := by simpa using hl
      have hyk := WideAt.sameKey_eq hs
      rw [show left y.1 = true by rw [hyk]; exact hk, hv]
      rw [remV_congr left (fun z => left z && !z.sameKey k) r fun p hp => by
        have : p.1.sameKey k = false := by
          cases hq : p.1.sameKey k
          · rfl
          · exact absurd (hyk.trans (WideAt.sameKey_eq hq).symm) (h1 p hp)
        rw [this]; simp]
      simp
theorem key_str {key : Value} {kl : Lit} (h : keyOf Try.prog 9 key = some kl) : ∃ x, key = .string x := by
  cases key <;> simp [keyOf, mapKey, Try.underlying9] at h
  exact ⟨_, rfl⟩
theorem at_look {es : List (Lit × Value)} {kl : Lit} {v : Value} (h : ∀ zd, (DataW.map (es.map hv)).atKey kl zd = .held v) : lookL es kl = some v := by
  have h1 := h (.held (.bool true))
  have h2 := h (.held (.bool false))
  rw [atKey_hv] at h1 h2
  cases hl : lookL es kl with
  | some u => rw [hl] at h1; injection h1 with h1; rw [← h1]; rfl
  | none =>
    rw [hl] at h1 h2
    injection h1 with h1
    injection h2 with h2
    rw [← h1] at h2
    cases h2
/-- The numbers of sums are in 64 bits. -/
def InU (es : Ent) : Prop := ∀ p ∈ es, p.2.1 < 2 ^ 64 ∧ p.2.2 < 2 ^ 64
theorem InU.get {es : Ent} (h : InU es) (k : Lit) : (getE es k).1 < 2 ^ 64 ∧ (getE es k).2 < 2 ^ 64 := by
  unfold getE
  cases hl : lookL es k with
  | none => simp
  | some v => exact h _ (mem_of_look hl)
theorem SumsAt.keys {w : World} {bp bm : Nat} {es : Ent} (h : SumsAt w bp bm es) : es.Pairwise fun p q => p.1 ≠ q.1 := by
  have h1 := (h.plus.keys keyedS).1
  unfold plusE mapE at h1
  rw [List.pairwise_map] at h1
  exact h1
theorem SumsAt.next {w w' : World} {bp bm : Nat} {es : Ent} (h : SumsAt w bp bm es) (hb : Below w.heap.size w w') : SumsAt w' bp bm es := ⟨h.apart, h.plus.next hb, h.minus.next hb⟩
theorem Value_calls (w : World) (bp bm : Nat) (es : Ent) (h : SumsAt w bp bm es) (hu : InU es) :
    Calls Try.prog 21 #[sumsV bp bm] w fun e w' => (∃ v : Int, e = .returned (.int .i64 (wrap64 v)) ∧ 0 ≤ v ∧ v < 2 ^ 64 ∧ v % 2 ^ 64 = allV es % 2 ^ 64) ∧ Below w.heap.size w w' := by
  have hlt1 := h.plus.lt
  have hlt2 := h.minus.lt
  have hb2 : Below w.heap.size w (w.alloc (.cells #[Value.map (some bp), Value.map (some bm)] 48)) := (Below.refl _ w).alloc (Nat.le_refl _) _
  have hc0 : (w.alloc (.cells #[Value.map (some bp), Value.map (some bm)] 48)).cell? ⟨w.heap.size, 0, none⟩ = some (.map (some bp)) := by simp
  have hc1 : (w.alloc (.cells #[Value.map (some bp), Value.map (some bm)] 48)).cell? ⟨w.heap.size, 1, none⟩ = some (.map (some bm)) := by simp
  have hz2 : (w.alloc (.cells #[Value.map (some bp), Value.map (some bm)] 48)).heap.size = w.heap.size + 1 := by simp
  unfold sumsV
  have HU := Lib.hid hu
  have HK := Lib.hid h.keys
  go_enter Try.func21, Try.ntmps21
  have HS := Lib.hid (h.next hb2)
  clear h hu
  go_wp2_with (first | (at_range; refine wpList_range_own _ rfl _ 46 rfl 9 41 keyedS Try.underlying46 HV bp _ _ rfl HS.out.plus ?_; intro w0 hrg0 hg0 hs0))
  generalize (w.alloc (.cells #[Value.map (some bp), Value.map (some bm)] 48)) = W2 at *
  go_frame
  have hb0 : Below w.heap.size w w0 := hb2.grown hg0 (by omega) (by simp)
  have hm0 : MapL Try.prog 9 w0 bm (minusE es) := HS.out.minus.kept hg0 (by simp)
  have hk0 : w0.cell? ⟨w.heap.size, 1, none⟩ = some (.map (some bm)) := hg0.cell hc1 (by simp)
  have hall : remV (Maps.has (DataW.map ((plusE es).map hv))) es = allV es := remV_all _ _ fun p hp => by
    rw [has_hv]
    unfold hasL
    rw [List.any_eq_true]
    exact ⟨(p.1, u64 p.2.1), List.mem_map.2 ⟨p, hp, rfl⟩, WideAt.sameKey_self ((HS.out.plus.keys keyedS).2 _ (List.mem_map.2 ⟨p, hp, rfl⟩))⟩
  have HB0 := Lib.hid hb0
  have HALL := Lib.hid hall
  have HRG := Lib.hid hrg0
  have hz3 : w.heap.size < W2.heap.size := by omega
  have HM0 := Lib.hid hm0
  have HK0 := Lib.hid hk0
  clear hb0 hall hrg0 hg0 hs0 hm0 hk0 hc0 hc1 hz2
  go_loopw [3] (fun v wr => ∃ (left : Lit → Bool) (cnt : Nat) (acc : Int), v = .int .u64 acc ∧ 0 ≤ acc ∧ acc < 18446744073709551616 ∧ wr.ranges Try.prog 9 HV bp W2.heap.size (plusE es).length (DataW.map ((plusE es).map hv)) left cnt ∧ (acc + remV left es) % 2 ^ 64 = allV es % 2 ^ 64 ∧ MapL Try.prog 9 wr bm (minusE es) ∧ wr.cell? ⟨w.heap.size, 1, none⟩ = some (.map (some bm)) ∧ Below w.heap.size w wr) (fun _ wr => wr.rangeLeft bp W2.heap.size)
  case atStart => exact ⟨_, _, 0, rfl, by omega, by omega, HRG.out, by rw [HALL.out]; simp, HM0.out, HK0.out, HB0.out⟩
  case round =>
    obtain ⟨left, cnt, acc, rfl, ha0, ha1, hrg, hsum, hmi, hce, hbe⟩ := hrel
    have HRGI := Lib.hid hrg
    have HSUM := Lib.hid hsum
    have HBE := Lib.hid hbe
    have HMI := Lib.hid hmi
    have HCE := Lib.hid hce
    clear hrg hsum hbe hmi hce
    go_wp2_with (first | (at_next; refine wpList_next_ranges _ rfl _ rfl 9 keyedS HV Value.string id (fun key kl h => key_str h) (fun v y _ => ⟨v, rfl⟩) bp W2.heap.size _ _ _ _ rfl HRGI.out ?_ ?_))
    · intro h0 hl
      have hacc := HSUM.out
      rw [remV_none left es hl] at hacc
      go_wp2
      go_ret
      exact ⟨⟨acc, rfl, ha0, by omega, by omega⟩, HBE.out⟩
    · intro x c kl a pl w' cnt' hkey hlk hv1 hat hrg' hlt hgr hsz hen
      have e1 : a = .held c := by
        have := (Prod.mk.inj (Option.some.inj hv1)).1
        exact this.symm
      subst e1
      have hl1 := at_look hat
      unfold plusE at hl1
      rw [mapE_look] at hl1
      obtain ⟨v, hl2, rfl⟩ := Option.map_eq_some_iff.1 hl1
      have hstep := remV_step left es kl v HK.out hl2 hlk
      have hbe' : Below w.heap.size w w' := HBE.out.grown hgr HBE.out.size (by simp; omega)
      have hmi' : MapL Try.prog 9 w' bm (minusE es) := HMI.out.kept hgr (by simp; omega)
      have hce' : w'.cell? ⟨w.heap.size, 1, none⟩ = some (.map (some bm)) := hgr.cell HCE.out (by simp; omega)
      have hlk2 := hmi'.look keyedS Try.underlying46 (zU w') hkey
      rw [look_minus, show getE es kl = v by simp [getE, hl2]] at hlk2
      have hsum := HSUM.out
      have HRG2 := Lib.hid hrg'
      have HBE2 := Lib.hid hbe'
      have HMI2 := Lib.hid hmi'
      have HCE2 := Lib.hid hce'
      have hm : w'.rangeLeft bp W2.heap.size < wr.rangeLeft bp W2.heap.size := by rw [hrg'.left_eq, HRGI.out.left_eq]; exact hlt
      have HM := Lib.hid hm
      rw [hstep] at hsum
      have hvv := HU.out _ (mem_of_look hl2)
      obtain ⟨p1, p2⟩ := v
      simp only [trm] at hsum hvv
      have HSUM2 := Lib.hid hsum
      clear hv1 hat hrg' hgr hsz hbe' hmi' hstep hl1 hl2 hm hsum
      unfold u64 at hen hlk2
      go_wp2
      refine ⟨⟨_, _, _, rfl, by rw [wrap_u64]; omega, by rw [wrap_u64]; omega, HRG2.out, ?_, HMI2.out, HCE2.out, HBE2.out⟩, HM.out⟩
      have := HSUM2.out
      rw [wrap_u64, wrap_u64]
      omega
end Go.Proofs.Ytloackmpmhgkeaa.Cnt
