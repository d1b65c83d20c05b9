/-
  Disks (layer 7): the walk of Room, over the map in whatever order. No condition.
-/
import Derived.Test.YtpiaplgbpjgjiaaDoorDkMake
open Go Go.RowKit
namespace Go.Proofs.YtpiaplgbpjgjiaaDoor.Dk
open Base Mp

def remS (left : Lit → Bool) (S : FS) : Nat := (S.map fun p => if left p.1 then p.2.bytes.length else 0).sum
theorem remS_none (left : Lit → Bool) (S : FS) (h : ∀ k, left k = false) : remS left S = 0 := by
  unfold remS
  induction S with
  | nil => rfl
  | cons y r ih => simp only [List.map_cons, List.sum_cons, h, Bool.false_eq_true, if_false] at ih ⊢; omega
theorem remS_all (left : Lit → Bool) (S : FS) (h : ∀ p ∈ S, left p.1 = true) : remS left S = total S := by
  unfold remS total
  congr 1
  exact List.map_congr_left fun p hp => by rw [h p hp]; rfl
theorem remS_congr (left left' : Lit → Bool) (S : FS) (h : ∀ p ∈ S, left p.1 = left' p.1) : remS left S = remS left' S := by
  unfold remS
  congr 1
  exact List.map_congr_left fun p hp => by rw [h p hp]
theorem remS_cons (left : Lit → Bool) (y : Lit × FileD) (r : FS) : remS left (y :: r) = (if left y.1 then y.2.bytes.length else 0) + remS left r := rfl
theorem remS_step (left : Lit → Bool) (S : FS) (k : Lit) (H : FileD) (hn : S.Pairwise fun p q => p.1 ≠ q.1) (hl : lookL S k = some H) (hk : left k = true) :
    remS left S = H.bytes.length + remS (fun z => left z && !z.sameKey k) S := by
  induction S with
  | nil => simp [lookL] at hl
  | cons y r ih =>
    obtain ⟨h1, h2⟩ := List.pairwise_cons.1 hn
    unfold lookL at hl
    rw [List.find?_cons] at hl
    rw [remS_cons, remS_cons]
    cases hs : y.1.sameKey k
    · rw [hs] at hl
      have ih := ih h2 hl
      rw [ih]
      cases left y.1 <;> simp <;> omega
    · rw [hs] at hl
      have hv : y.2 = H := by simpa using hl
      have hyk := WideAt.sameKey_eq hs
      rw [show left y.1 = true by rw [hyk]; exact hk, hv]
      rw [remS_congr left (fun z => left z && !z.sameKey k) r fun p hp => by
        have : p.1.sameKey k = false := by
          cases hq : p.1.sameKey k
          · rfl
          · exact absurd (hyk.trans (WideAt.sameKey_eq hq).symm) (h1 p hp)
        rw [this]; simp]
      simp
theorem remS_le (left : Lit → Bool) (S : FS) : remS left S ≤ total S := by
  induction S with
  | nil => exact Nat.le_refl _
  | cons y r ih =>
    rw [remS_cons, total_cons]
    split <;> omega
theorem key_str {key : Value} {kl : Lit} (h : keyOf Tryd.prog 9 key = some kl) : ∃ x, key = .string x := by
  cases key <;> simp [keyOf, mapKey, Tryd.underlying9] at h
  exact ⟨_, rfl⟩
theorem at_look {es : List (Lit × Value)} {kl : Lit} {v : Value} (h : ∀ zd, (DataW.map (es.map hv)).atKey kl zd = .held v) : lookL es kl = some v := by
  have h1 := h (.held (.bool true))
  have h2 := h (.held (.bool false))
  rw [atKey_hv] at h1 h2
  cases hl : lookL es kl with
  | some u => rw [hl] at h1; injection h1 with h1; rw [← h1]; rfl
  | none =>
    rw [hl] at h1 h2
    injection h1 with h1
    injection h2 with h2
    rw [← h1] at h2
    cases h2

set_option maxRecDepth 100000 in
set_option maxHeartbeats 1000000 in
set_option maxRecDepth 100000 in
set_option maxHeartbeats 2000000 in
theorem Room_f {w : World} {b : Nat} {D : DiskD} {T : Nat → Prop} (h : DiskAt w b D T) :
    Calls Tryd.prog 21 #[.pointer (some ⟨b, 0, none⟩)] w fun e w' => e = .returned (.int .i64 (left D : Nat)) ∧ Below w.heap.size w w' := by
  obtain ⟨tag, blk, bm, hs⟩ := h
  have HTH := Lib.hid (There_yes w b bm D hs.is)
  have c1 := hs.is.c1
  have c2 := hs.is.c2
  have hle := hs.fine.fits
  have hro := hs.fine.room
  have HS := Lib.hid hs
  have HLE := Lib.hid (show left D = D.room - total D.files from rfl)
  clear hs
  go_enter Tryd.func21, Tryd.ntmps21
  go_wp2_with fail
  with_reducible refine HTH.out.mono ?_
  rintro e w1 ⟨rfl, rfl⟩
  clear HTH
  go_wp2_with (first | (at_range; refine wpList_range_own _ rfl _ 68 rfl 9 71 keyedS Tryd.underlying68 HV bm _ _ rfl HS.out.map ?_; intro w0 hrg0 hg0 hs0))
  go_frame
  have hb0 : Below w.heap.size w w0 := (Below.refl _ w).grown hg0 (Nat.le_refl _) (by simp)
  have hall : remS (Maps.has (DataW.map ((mapE (fun k (_ : FileD) => ptr (blk k)) D.files).map hv))) D.files = total D.files := remS_all _ _ fun p hp => by
    rw [has_hv]
    unfold hasL
    rw [List.any_eq_true]
    exact ⟨(p.1, ptr (blk p.1)), List.mem_map.2 ⟨p, hp, rfl⟩, WideAt.sameKey_self ((HS.out.map.keys keyedS).2 _ (List.mem_map.2 ⟨p, hp, rfl⟩))⟩
  have HB0 := Lib.hid hb0
  have HALL := Lib.hid hall
  have HRG := Lib.hid hrg0
  clear hb0 hall hrg0 hg0 hs0 c1 c2
  go_loopw [3] (fun v wr => ∃ (lft : Lit → Bool) (cnt acc : Nat), v = .int .i64 acc ∧ wr.ranges Tryd.prog 9 HV bm w.heap.size (mapE (fun k (_ : FileD) => ptr (blk k)) D.files).length (DataW.map ((mapE (fun k (_ : FileD) => ptr (blk k)) D.files).map hv)) lft cnt ∧ acc = D.room - total D.files + remS lft D.files ∧ Below w.heap.size w wr) (fun _ wr => wr.rangeLeft bm w.heap.size)
  case atStart => exact ⟨_, _, D.room, rfl, HRG.out, by rw [HALL.out]; omega, HB0.out⟩
  case round =>
    obtain ⟨lft, cnt, acc, rfl, hrg, hsum, hbe⟩ := hrel
    have HRGI := Lib.hid hrg
    have HSUM := Lib.hid hsum
    have HBE := Lib.hid hbe
    clear hrg hsum hbe
    go_wp2_with (first | (at_next; refine wpList_next_ranges _ rfl _ rfl 9 keyedS HV Value.string id (fun key kl h => key_str h) (fun v y _ => ⟨v, rfl⟩) bm w.heap.size _ _ _ _ rfl HRGI.out ?_ ?_))
    · intro h0 hl
      have hacc : acc = left D := by
        have := HSUM.out
        rw [remS_none lft D.files hl] at this
        rw [HLE.out]
        omega
      subst hacc
      go_wp2
      go_ret
      exact ⟨rfl, HBE.out⟩
    · intro x c kl a pl w' cnt' hkey hlk hv1 hat hrg' hlt hgr hsz hen
      have e1 : a = .held c := by
        have := (Prod.mk.inj (Option.some.inj hv1)).1
        exact this.symm
      subst e1
      have hl1 := at_look hat
      rw [mapE_look] at hl1
      obtain ⟨H, hl2, rfl⟩ := Option.map_eq_some_iff.1 hl1
      have hstep := remS_step lft D.files kl H HS.out.fine.apart hl2 hlk
      have hbe' : Below w.heap.size w w' := HBE.out.grown hgr HBE.out.size (by simp)
      have g2 := (HS.out.at hl2).next (Kept.of_below (T := fun _ => False) hbe') (fun _ _ h => h) (fun _ _ => rfl)
      obtain ⟨⟨v, hcs, hr, _⟩, _⟩ := g2
      have g3 := (hcs 0 (by omega)).1
      simp only [fileCell] at g3
      obtain ⟨p, cap, rfl, -⟩ := own_take hr (Nat.le_refl _)
      have hsum := HSUM.out
      have hsh := HS.out.fine.short (mem_of_look hl2)
      have HRG2 := Lib.hid hrg'
      have HBE2 := Lib.hid hbe'
      have HST := Lib.hid hstep
      have hm : w'.rangeLeft bm w.heap.size < wr.rangeLeft bm w.heap.size := by rw [hrg'.left_eq, HRGI.out.left_eq]; exact hlt
      have HM := Lib.hid hm
      rw [hstep] at hsum
      have HSUM2 := Lib.hid hsum
      simp only at hsh
      clear hkey hv1 hat hrg' hgr hsz hbe' hstep hl1 hl2 hm hcs hr
      have HF := Lib.hid (show D.room - total D.files ≤ 4194304 by omega)
      have hrem : remS (fun z => lft z && !z.sameKey kl) D.files ≤ total D.files := remS_le _ _
      generalize H.bytes.length = bH at *
      have e2 : (acc : Int) - (bH : Int) = ((acc - bH : Nat) : Int) := by have := HSUM2.out; omega
      have hbb : bH ≤ acc ∧ acc ≤ 16777216 := by have := HSUM2.out; have := HF.out; omega
      have E2 := Lib.hid e2
      clear hsum e2 hrem
      unfold ptr at hen
      go_wp2
      go_roundw
      case rel => exact ⟨_, cnt', acc - bH, by rw [E2.out], HRG2.out, by have := HSUM2.out; omega, HBE2.out⟩
      case measure => exact HM.out
end Go.Proofs.YtpiaplgbpjgjiaaDoor.Dk
